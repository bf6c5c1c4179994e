/- Two more laws for a region that draws its order: one over any relation that its steps keep; one in which the last operation, which all others are ahead of, may turn what it likes. Laws at the operations on maps, for the walk; small operations in a region that draws its order. The walks of paths.Parent and paths.Name. The walk of lay: a node is put at its place, its name among its parent's children. The walk of tree.New. The look whether a node's path is there already: a region that draws its order. -/
import Derived.Test.YthinpbdbhijbgaaGreatDoorJDigestFinds3
import Derived.Test.YthinpbdbhijbgaaGreatDoorJDigestFinds1
import Derived.Test.YthinpbdbhijbgaaGreatDoorJDigestFinds2
namespace Go.Proofs.YthinpbdbhijbgaaGreatDoor
open Go.RowKit
variable {P : Program} {ops : Array Oper} {Q : Exit → Act → World → Prop}

theorem ready_iff {l : Array Bool} {i : Nat} (hs : l.size = ops.size) : i ∈ Region.ready .any ops l ↔ ∃ h : i < ops.size, l.getD i false = false ∧ ∀ e ∈ (ops[i]).after.toList, Region.binds .any e = true → l.getD e.on false = true := by
  unfold Region.ready
  simp only [List.mem_filter, List.mem_range, Bool.and_eq_true, Bool.not_eq_true']
  constructor
  · rintro ⟨hlt, hu, hpre⟩
    refine ⟨hlt, ?_, fun e he hb => ?_⟩
    · have hl : i < l.size := by omega
      rw [Array.getD_eq_getD_getElem?, Array.getElem?_eq_getElem hl] at hu ⊢
      simpa using hu
    · rw [Array.getElem?_eq_getElem hlt] at hpre
      simp only [Option.map_some, Option.getD_some, Array.all_eq_true'] at hpre
      have := hpre e (by simpa using he)
      simpa [hb] using this
  · rintro ⟨hlt, hu, hpre⟩
    refine ⟨hlt, ?_, ?_⟩
    · have hl : i < l.size := by omega
      rw [Array.getD_eq_getD_getElem?, Array.getElem?_eq_getElem hl] at hu ⊢
      simpa using hu
    · rw [Array.getElem?_eq_getElem hlt]
      simp only [Option.map_some, Option.getD_some, Array.all_eq_true']
      intro e he
      cases hb : Region.binds .any e with
      | false => simp
      | true => simp [hpre e (by simpa using he) hb]

/-- Each operation waits for earlier ones alone. -/
def aheadB (ops : Array Oper) : Bool := ops.toList.zipIdx.all fun x => x.1.after.toList.all fun e => !Region.binds .any e || decide (e.on < x.2)

/-- Where nothing is ready all is done. -/
theorem ready_none {l : Array Bool} (hs : l.size = ops.size) (hacy : aheadB ops = true) (hr : Region.ready .any ops l = []) : ∀ n i, i < n → i < ops.size → l.getD i false = true := by
  intro n
  induction n with
  | zero => intro i h; omega
  | succ n ih =>
    intro i hn hi
    cases hl : l.getD i false with
    | true => rfl
    | false =>
      exfalso
      have hmem : i ∈ Region.ready .any ops l := by
        rw [ready_iff hs]
        refine ⟨hi, hl, fun e he hb => ?_⟩
        have hac := List.all_eq_true.1 hacy (ops[i], i) (List.mem_zipIdx_iff_getElem?.2 (by simp))
        have := List.all_eq_true.1 hac e (by simpa using he)
        have hlt : e.on < i := by simpa [hb] using this
        exact ih e.on (by omega) (by omega)
      rw [hr] at hmem
      cases hmem

/-- What a step's new value makes of the frame. -/
theorem framed_put {a0 a : Act} {o : Oper} (hF : Framed ops a0 a) (hmem : o ∈ ops.toList) (v : Value) : Framed ops a0 (a.put o.dst v) := by
  refine ⟨?_, ?_, fun t ht => ?_⟩
  · unfold Act.put; split <;> exact hF.1
  · unfold Act.put; split
    · simpa using hF.2.1
    · exact hF.2.1
  · rw [← hF.2.2 t ht]
    have := ht o hmem
    unfold Act.put
    cases hdd : o.dst with
    | none => rfl
    | some d =>
      have hne : d ≠ t := fun e => this (by rw [hdd, e])
      simp [Array.getD_eq_getD_getElem?, hne]

theorem getD_set_other {l : Array Bool} {i j : Nat} (h : j ≠ i) : (l.setIfInBounds i true).getD j false = l.getD j false := by
  simp [Array.getD_eq_getD_getElem?, Array.getElem?_setIfInBounds, Ne.symm h]
theorem getD_set_same {l : Array Bool} {i : Nat} (h : i < l.size) : (l.setIfInBounds i true).getD i false = true := by
  simp [Array.getD_eq_getD_getElem?, h]

/-- Each operation but the last has one that waits for it. -/
def coverOk (ops : Array Oper) : Bool := (List.range (ops.size - 1)).all fun i => ops.toList.zipIdx.any fun x => decide (i < x.2) && x.1.after.toList.any fun e => e.on == i && Region.binds .any e

theorem region_last {a0 : Act} {w0 : World} (m : Nat) (Φ : Nat → Value → World → Prop)
    (hstab : ∀ i v w w', Φ i v w → Ext w w' → Φ i v w') (hchk : (dstsOk ops && aheadB ops && coverOk ops && ((ops.toList.take (ops.size - 1)).all fun o => o.dst.any fun d => decide (d < m))) = true) (hsz : a0.tmps.size = m)
    (k : Nat) (ol : Oper) (hk : ops[k]? = some ol) (hks : ops.size = k + 1) (hg : ol.guard = none)
    (hd : Duties P ops Q Φ a0 w0 0 (ops.toList.take k))
    (hlast : ∀ a w, Ext w0 w → Framed ops a0 a → (∀ i o, i < k → ops[i]? = some o → Φ i (valOf o a) w) → ol.wp P a w (fun a' w' => Q .normal a' w') Q) :
    RegionP P ops Q a0 w0 := by
  simp only [Bool.and_eq_true] at hchk
  obtain ⟨⟨⟨hdst, hacy⟩, hcov⟩, hin⟩ := hchk
  rw [hks, Nat.add_sub_cancel] at hin
  have hdn : (ops.toList.filterMap (·.dst)).Nodup := by simpa [dstsOk] using hdst
  unfold RegionP
  refine wpAny_inv (fun l a w => l.size = ops.size ∧ ((l.getD k false = false ∧ Ext w0 w ∧ Framed ops a0 a ∧ (∀ i o, i < k → ops[i]? = some o → l.getD i false = true → Φ i (valOf o a) w) ∧
      (∀ (i : Nat) o, ops[i]? = some o → l.getD i false = true → ∀ e ∈ o.after.toList, Region.binds .any e = true → l.getD e.on false = true)) ∨ ((∀ i, i < ops.size → l.getD i false = true) ∧ Q .normal a w))) (fun _ _ _ h => h.1) ?_ ?_ _ _ _ _ ?_ ?_
  · rintro l a w i ⟨hs, hJ⟩ hi
    obtain ⟨hlt, hu, hpre⟩ := (ready_iff hs).1 hi
    have hJ' := hJ.resolve_right (fun h => by rw [h.1 i hlt] at hu; cases hu)
    obtain ⟨hlk, hE, hF, hP, hC⟩ := hJ'
    have ho : ops[i]? = some ops[i] := Array.getElem?_eq_getElem hlt
    have hmem : ops[i] ∈ ops.toList := by simp
    by_cases hik : i = k
    · subst hik
      rw [ho] at hk
      obtain rfl := Option.some.inj hk
      have hothers : ∀ d j, j < i → i - j ≤ d → l.getD j false = true := by
        intro d
        induction d with
        | zero => intro j h1 h2; omega
        | succ d ih =>
          intro j h1 h2
          have := List.all_eq_true.1 hcov j (by rw [List.mem_range]; omega)
          obtain ⟨x, hx, hx2⟩ := List.any_eq_true.1 this
          simp only [Bool.and_eq_true, decide_eq_true_eq, List.any_eq_true, beq_iff_eq] at hx2
          obtain ⟨hjx, e, he, hej, heb⟩ := hx2
          have hxo : ops[x.2]? = some x.1 := by simpa using List.mem_zipIdx_iff_getElem?.1 hx
          have hxlt : x.2 < ops.size := (Array.getElem?_eq_some_iff.1 hxo).1
          by_cases hxi : x.2 = i
          · rw [hxi, ho] at hxo
            have := hpre e (by rw [Option.some.inj hxo]; exact he) heb
            rwa [hej] at this
          · have := hC x.2 x.1 hxo (ih x.2 (by omega) (by omega)) e he heb
            rwa [hej] at this
      have hgo := hlast a w hE hF (fun j o hj hjo => hP j o hj hjo (hothers i j hj (by omega)))
      unfold wpOpP
      rw [ho]
      simp only []
      have hw : Region.wanted ops[i] (yielded ops a.tmps) = true := by unfold Region.wanted; rw [hg]
      rw [if_pos hw]
      refine Oper.wp_mono (fun a' w' h => ?_) hgo
      refine ⟨by simpa using hs, .inr ⟨fun j hj => ?_, h⟩⟩
      by_cases hji : j = i
      · subst hji; exact getD_set_same (by omega)
      · rw [getD_set_other hji]; exact hothers i j (by omega) (by omega)
    · have hol : (ops.toList.take k)[i]? = some ops[i] := by rw [List.getElem?_take]; simp; omega
      have hduty := hd.at i ops[i] hol
      rw [Nat.zero_add] at hduty
      have hah : Ahead ops Φ ops[i] a w := fun e he hb p hp => by
        have hac := List.all_eq_true.1 hacy (ops[i], i) (List.mem_zipIdx_iff_getElem?.2 (by simp))
        have := List.all_eq_true.1 hac e (by simpa using he)
        have hlt' : e.on < i := by simpa [hb] using this
        exact hP e.on p (by omega) hp (hpre e he hb)
      have hgo := hduty a w hE hF hah
      have next : ∀ v w', Φ i v w' → Ext w w' → (l.setIfInBounds i true).size = ops.size ∧ (((l.setIfInBounds i true).getD k false = false ∧ Ext w0 w' ∧ Framed ops a0 (a.put ops[i].dst v) ∧ (∀ j o, j < k → ops[j]? = some o → (l.setIfInBounds i true).getD j false = true → Φ j (valOf o (a.put ops[i].dst v)) w') ∧
          (∀ (j : Nat) o, ops[j]? = some o → (l.setIfInBounds i true).getD j false = true → ∀ e ∈ o.after.toList, Region.binds .any e = true → (l.setIfInBounds i true).getD e.on false = true)) ∨ ((∀ j, j < ops.size → (l.setIfInBounds i true).getD j false = true) ∧ Q .normal (a.put ops[i].dst v) w')) := by
        intro v w' hv hE'
        refine ⟨by simpa using hs, .inl ⟨by rw [getD_set_other (Ne.symm hik)]; exact hlk, hE.trans hE', framed_put hF hmem v, fun j o hj hjo hlj => ?_, fun j o hjo hlj e he hb => ?_⟩⟩
        · by_cases e : j = i
          · subst e
            rw [ho] at hjo
            obtain rfl := Option.some.inj hjo
            have hod := List.all_eq_true.1 hin ops[j] (List.mem_of_getElem? hol)
            rw [valOf_put_same (fun d hd => by rw [hF.2.1, hsz]; rw [hd] at hod; simpa using hod) (fun h => by rw [h] at hod; cases hod)]
            exact hv
          · rw [getD_set_other e] at hlj
            rw [valOf_put_other (fun d hd h => e (dst_inj ops.toList hdn j i o ops[i] d (by simpa using hjo) (by simp) hd h))]
            exact hstab _ _ _ _ (hP j o hj hjo hlj) hE'
        · by_cases e1 : e.on = i
          · rw [e1]; exact getD_set_same (by omega)
          · rw [getD_set_other e1]
            by_cases e2 : j = i
            · subst e2
              rw [ho] at hjo
              obtain rfl := Option.some.inj hjo
              exact hpre e he hb
            · rw [getD_set_other e2] at hlj
              exact hC j o hjo hlj e he hb
      unfold wpOpP
      rw [ho]
      simp only []
      by_cases hw : Region.wanted ops[i] (yielded ops a.tmps) = true
      · rw [if_pos hw] at hgo ⊢
        refine Oper.wp_mono (fun a' w' h => ?_) hgo
        obtain ⟨v, rfl, hv, hE'⟩ := h
        exact next v w' hv hE'
      · rw [if_neg hw] at hgo ⊢
        exact next undef w hgo (Ext.refl w)
  · rintro l a w ⟨hs, hJ⟩ hr
    rcases hJ with ⟨hlk, _⟩ | ⟨_, hq⟩
    · rw [ready_none hs hacy hr (k + 1) k (by omega) (by omega)] at hlk
      cases hlk
    · exact hq
  · refine ⟨by simp, .inl ⟨?_, Ext.drew w0, ⟨rfl, rfl, fun _ _ => rfl⟩, fun i o _ _ h => ?_, fun i o _ h => ?_⟩⟩
    · simp [Array.getD_eq_getD_getElem?, Array.getElem?_replicate]; split <;> simp
    · simp [Array.getD_eq_getD_getElem?, Array.getElem?_replicate] at h; split at h <;> simp at h
    · simp [Array.getD_eq_getD_getElem?, Array.getElem?_replicate] at h; split at h <;> simp at h
  · unfold unlisted
    exact Nat.le_trans (List.count_le_length) (by simp)

/-- An operation's duty, over any relation. -/
def DutyR (Rl : World → World → Prop) (P : Program) (ops : Array Oper) (Q : Exit → Act → World → Prop) (Φ : Nat → Value → World → Prop) (a0 : Act) (w0 : World) (i : Nat) (o : Oper) : Prop :=
  ∀ a w, Rl w0 w → Framed ops a0 a → Ahead ops Φ o a w →
    if Region.wanted o (yielded ops a.tmps) then o.wp P a w (fun a' w' => ∃ v, a' = a.put o.dst v ∧ Φ i v w' ∧ Rl w w') Q else Φ i undef w
def DutiesR (Rl : World → World → Prop) (P : Program) (ops : Array Oper) (Q : Exit → Act → World → Prop) (Φ : Nat → Value → World → Prop) (a0 : Act) (w0 : World) : Nat → List Oper → Prop
  | _, [] => True
  | i, o :: l => DutyR Rl P ops Q Φ a0 w0 i o ∧ DutiesR Rl P ops Q Φ a0 w0 (i + 1) l
theorem DutiesR.at {Rl : World → World → Prop} {Φ : Nat → Value → World → Prop} {a0 : Act} {w0 : World} : ∀ {l : List Oper} {k : Nat}, DutiesR Rl P ops Q Φ a0 w0 k l → ∀ i o, l[i]? = some o → DutyR Rl P ops Q Φ a0 w0 (k + i) o
  | [], _, _, i, o, h => by simp at h
  | p :: l, k, hd, 0, o, h => by simp at h; subst h; exact hd.1
  | p :: l, k, hd, i + 1, o, h => by
    have := DutiesR.at (k := k + 1) hd.2 i o (by simpa using h)
    rwa [show k + 1 + i = k + (i + 1) from by omega] at this

theorem region_rel {a0 : Act} {w0 : World} (m : Nat) (Rl : World → World → Prop) (hRr : ∀ w, Rl w w) (hRt : ∀ a b c, Rl a b → Rl b c → Rl a c) (hRd : ∀ w, Rl w w.drew)
    (Φ : Nat → Value → World → Prop)
    (hstab : ∀ i v w w', Φ i v w → Rl w w' → Φ i v w') (hund : ∀ i v w, Φ i v w → (ops[i]?.any fun o => o.dst.isNone) = true → Φ i undef w)
    (hchk : (dstsOk ops && aheadB ops && (ops.toList.all fun o => o.dst.all fun d => decide (d < m))) = true) (hsz : a0.tmps.size = m)
    (hd : DutiesR Rl P ops Q Φ a0 w0 0 ops.toList)
    (hend : ∀ a w, Rl w0 w → Framed ops a0 a → (∀ i o, ops[i]? = some o → Φ i (valOf o a) w) → Q .normal a w) :
    RegionP P ops Q a0 w0 := by
  simp only [Bool.and_eq_true] at hchk
  obtain ⟨⟨hdst, hacy⟩, hin⟩ := hchk
  have hdn : (ops.toList.filterMap (·.dst)).Nodup := by simpa [dstsOk] using hdst
  unfold RegionP
  refine wpAny_inv (fun l a w => l.size = ops.size ∧ Rl w0 w ∧ Framed ops a0 a ∧ ∀ i o, ops[i]? = some o → l.getD i false = true → Φ i (valOf o a) w) (fun _ _ _ h => h.1) ?_ ?_ _ _ _ _ ?_ ?_
  · rintro l a w i ⟨hs, hE, hF, hP⟩ hi
    obtain ⟨hlt, hu, hpre⟩ := (ready_iff hs).1 hi
    have ho : ops[i]? = some ops[i] := Array.getElem?_eq_getElem hlt
    have hol : ops.toList[i]? = some ops[i] := by simp
    have hduty := hd.at i ops[i] hol
    rw [Nat.zero_add] at hduty
    have hgo := hduty a w hE hF (fun e he hb p hp => hP e.on p hp (hpre e he hb))
    have hmem : ops[i] ∈ ops.toList := by simp
    have next : ∀ v w', Φ i v w' → Rl w w' → (l.setIfInBounds i true).size = ops.size ∧ Rl w0 w' ∧ Framed ops a0 (a.put ops[i].dst v) ∧ ∀ j o, ops[j]? = some o → (l.setIfInBounds i true).getD j false = true → Φ j (valOf o (a.put ops[i].dst v)) w' := by
      intro v w' hv hE'
      refine ⟨by simpa using hs, hRt _ _ _ hE hE', framed_put hF hmem v, fun j o hj hlj => ?_⟩
      by_cases e : j = i
      · subst e
        rw [ho] at hj
        obtain rfl := Option.some.inj hj
        by_cases hdd : ops[j].dst = none
        · have : valOf ops[j] (a.put ops[j].dst v) = undef := by unfold valOf; rw [hdd]
          rw [this]
          exact hund j v w' hv (by rw [ho]; simp [hdd])
        · rw [valOf_put_same (fun d hd => by rw [hF.2.1, hsz]; have := List.all_eq_true.1 hin _ hmem; rw [hd] at this; simpa using this) (fun h => absurd h hdd)]
          exact hv
      · rw [getD_set_other e] at hlj
        rw [valOf_put_other (fun d hd h => e (dst_inj ops.toList hdn j i o ops[i] d (by simpa using hj) hol hd h))]
        exact hstab _ _ _ _ (hP j o hj hlj) hE'
    unfold wpOpP
    rw [ho]
    simp only []
    by_cases hw : Region.wanted ops[i] (yielded ops a.tmps) = true
    · rw [if_pos hw] at hgo ⊢
      refine Oper.wp_mono (fun a' w' h => ?_) hgo
      obtain ⟨v, rfl, hv, hE'⟩ := h
      exact next v w' hv hE'
    · rw [if_neg hw] at hgo ⊢
      exact next undef w hgo (hRr w)
  · rintro l a w ⟨hs, hE, hF, hP⟩ hr
    exact hend a w hE hF (fun i o ho => hP i o ho (ready_none hs hacy hr (i + 1) i (by omega) (Array.getElem?_eq_some_iff.1 ho).1))
  · exact ⟨by simp, hRd w0, ⟨rfl, rfl, fun _ _ => rfl⟩, fun i o _ h => by simp [Array.getD_eq_getD_getElem?, Array.getElem?_replicate] at h; split at h <;> simp at h⟩
  · unfold unlisted
    exact Nat.le_trans (List.count_le_length) (by simp)

theorem dutyR_free {Rl : World → World → Prop} {Φ : Nat → Value → World → Prop} {a0 : Act} {w0 : World} {i : Nat} {o : Oper} (hg : o.guard = none) (h : ∀ a w, Rl w0 w → Framed ops a0 a → Ahead ops Φ o a w → o.wp P a w (fun a' w' => ∃ v, a' = a.put o.dst v ∧ Φ i v w' ∧ Rl w w') Q) : DutyR Rl P ops Q Φ a0 w0 i o := by
  intro a w hE hF hA
  have : Region.wanted o (yielded ops a.tmps) = true := by unfold Region.wanted; rw [hg]
  rw [if_pos this]
  exact h a w hE hF hA
/-- The frame behind a region, each operation's value in its slot. -/
def filled (l : List Oper) (us : List Value) (a0 : Act) : Act := (l.zip us).foldl (fun b x => b.put x.1.dst x.2) a0

theorem put_getD (a : Act) (d : Tmp) (v : Value) (t : Tmp) (hd : d < a.tmps.size) : (a.put (some d) v).tmps.getD t undef = if t = d then v else a.tmps.getD t undef := by
  unfold Act.put
  simp only [Array.getD_eq_getD_getElem?, Array.getElem?_setIfInBounds]
  by_cases h : d = t
  · subst h; simp [hd]
  · rw [if_neg h, if_neg (fun e => h e.symm)]
theorem put_size (a : Act) (d : Option Tmp) (v : Value) : (a.put d v).tmps.size = a.tmps.size := by
  unfold Act.put; cases d <;> simp
theorem put_none (a : Act) (v : Value) : a.put none v = a := rfl
theorem put_defers (a : Act) (d : Option Tmp) (v : Value) : (a.put d v).defers = a.defers := by
  unfold Act.put; cases d <;> rfl

theorem filled_spec (a : Act) : ∀ (l : List Oper) (b : Act), (∀ o ∈ l, ∀ d, o.dst = some d → d < b.tmps.size) →
    (filled l (l.map fun o => valOf o a) b).tmps.size = b.tmps.size ∧ (filled l (l.map fun o => valOf o a) b).defers = b.defers ∧
    ∀ t, (filled l (l.map fun o => valOf o a) b).tmps.getD t undef = if (l.any fun o => o.dst == some t) = true then a.tmps.getD t undef else b.tmps.getD t undef
  | [], b, _ => ⟨rfl, rfl, fun t => by simp [filled]⟩
  | o :: l, b, h => by
    have ih := filled_spec a l (b.put o.dst (valOf o a)) (fun o' ho d hd => by rw [put_size]; exact h o' (by simp [ho]) d hd)
    have e : filled (o :: l) ((o :: l).map fun o => valOf o a) b = filled l (l.map fun o => valOf o a) (b.put o.dst (valOf o a)) := rfl
    rw [e]
    refine ⟨ih.1.trans (put_size _ _ _), ih.2.1.trans (put_defers _ _ _), fun t => ?_⟩
    rw [ih.2.2 t]
    by_cases h1 : (l.any fun o => o.dst == some t) = true
    · rw [if_pos h1, if_pos (by simp only [List.any_cons, h1, Bool.or_true])]
    · rw [if_neg h1]
      cases hd : o.dst with
      | none =>
        rw [if_neg (by simp only [List.any_cons, hd]; simpa using h1)]
        simp only [Act.put]
      | some d =>
        rw [put_getD _ _ _ _ (h o (by simp) d hd)]
        by_cases htd : t = d
        · subst htd
          rw [if_pos rfl, if_pos (by simp [hd])]
          unfold valOf; rw [hd]
        · rw [if_neg htd, if_neg]
          simp only [List.any_cons, hd, Bool.or_eq_true, not_or]
          exact ⟨by simpa using fun e => htd e.symm, h1⟩

theorem act_ext {a b : Act} (hd : a.defers = b.defers) (hs : a.tmps.size = b.tmps.size) (ht : ∀ t, a.tmps.getD t undef = b.tmps.getD t undef) : a = b := by
  obtain ⟨ta, da⟩ := a
  obtain ⟨tb, db⟩ := b
  simp only at hd hs ht
  subst hd
  congr 1
  refine Array.ext hs fun i h1 h2 => ?_
  have := ht i
  rw [Array.getD_eq_getD_getElem?, Array.getD_eq_getD_getElem?, Array.getElem?_eq_getElem h1, Array.getElem?_eq_getElem h2] at this
  exact this

theorem framed_filled {a0 a : Act} (hF : Framed ops a0 a) (l : List Oper) (hl : ∀ o ∈ l, o ∈ ops.toList) (hr : ∀ o ∈ ops.toList, o ∈ l ∨ o.dst = none) (hin : ∀ o ∈ l, ∀ d, o.dst = some d → d < a0.tmps.size) : a = filled l (l.map fun o => valOf o a) a0 := by
  have hs := filled_spec a l a0 hin
  refine act_ext (hF.1.trans hs.2.1.symm) (hF.2.1.trans hs.1.symm) fun t => ?_
  rw [hs.2.2 t]
  split
  · rfl
  · rename_i h
    refine hF.2.2 t fun o ho e => h ?_
    rcases hr o ho with h1 | h1
    · exact List.any_eq_true.2 ⟨o, h1, by simp [e]⟩
    · rw [h1] at e; cases e

theorem region_rel_e {a0 : Act} {w0 : World} (m : Nat) (Rl : World → World → Prop) (hRr : ∀ w, Rl w w) (hRt : ∀ a b c, Rl a b → Rl b c → Rl a c) (hRd : ∀ w, Rl w w.drew)
    (Φ : Nat → Value → World → Prop)
    (hstab : ∀ i v w w', Φ i v w → Rl w w' → Φ i v w') (hund : ∀ i v w, Φ i v w → (ops[i]?.any fun o => o.dst.isNone) = true → Φ i undef w)
    (hchk : (dstsOk ops && aheadB ops && (ops.toList.all fun o => o.dst.all fun d => decide (d < m))) = true) (hsz : a0.tmps.size = m)
    (hd : DutiesR Rl P ops Q Φ a0 w0 0 ops.toList)
    (hend : ∀ us w, Rl w0 w → us.length = ops.toList.length → (∀ i u, us[i]? = some u → Φ i u w) → Q .normal (filled ops.toList us a0) w) :
    RegionP P ops Q a0 w0 := by
  refine region_rel m Rl hRr hRt hRd Φ hstab hund hchk hsz hd fun a w hR hF hP => ?_
  simp only [Bool.and_eq_true] at hchk
  have hin : ∀ o ∈ ops.toList, ∀ d, o.dst = some d → d < a0.tmps.size := fun o ho d hd => by
    have := List.all_eq_true.1 hchk.2 o ho
    rw [hd] at this
    rw [hsz]; simpa using this
  rw [framed_filled hF ops.toList (fun _ h => h) (fun _ h => .inl h) hin]
  refine hend _ w hR (by simp) fun i u hu => ?_
  rw [List.getElem?_map, Option.map_eq_some_iff] at hu
  obtain ⟨o, ho, rfl⟩ := hu
  exact hP i o (by simpa using ho)

theorem wp_region_rel_e {id : Nat} {a0 : Act} {w0 : World} (m : Nat) (Rl : World → World → Prop) (hRr : ∀ w, Rl w w) (hRt : ∀ a b c, Rl a b → Rl b c → Rl a c) (hRd : ∀ w, Rl w w.drew)
    (hm : P.follows .mixedOrders = true) (Φ : Nat → Value → World → Prop)
    (hstab : ∀ i v w w', Φ i v w → Rl w w' → Φ i v w') (hund : ∀ i v w, Φ i v w → (ops[i]?.any fun o => o.dst.isNone) = true → Φ i undef w)
    (hchk : (dstsOk ops && aheadB ops && (ops.toList.all fun o => o.dst.all fun d => decide (d < m))) = true) (hsz : a0.tmps.size = m)
    (hd : DutiesR Rl P ops Q Φ a0 w0 0 ops.toList)
    (hend : ∀ us w, Rl w0 w → us.length = ops.toList.length → (∀ i u, us[i]? = some u → Φ i u w) → Q .normal (filled ops.toList us a0) w) :
    (Code.region id ops true).wp P Q a0 w0 := wp_region_P hm (region_rel_e m Rl hRr hRt hRd Φ hstab hund hchk hsz hd hend)

theorem region_last_e {a0 : Act} {w0 : World} (m : Nat) (Φ : Nat → Value → World → Prop)
    (hstab : ∀ i v w w', Φ i v w → Ext w w' → Φ i v w') (hchk : (dstsOk ops && aheadB ops && coverOk ops && ((ops.toList.take (ops.size - 1)).all fun o => o.dst.any fun d => decide (d < m))) = true) (hsz : a0.tmps.size = m)
    (k : Nat) (ol : Oper) (hk : ops[k]? = some ol) (hks : ops.size = k + 1) (hg : ol.guard = none) (hdn : ol.dst = none)
    (hd : Duties P ops Q Φ a0 w0 0 (ops.toList.take k))
    (hlast : ∀ us w, Ext w0 w → us.length = (ops.toList.take k).length → (∀ i u, us[i]? = some u → Φ i u w) → ol.wp P (filled (ops.toList.take k) us a0) w (fun a' w' => Q .normal a' w') Q) :
    RegionP P ops Q a0 w0 := by
  refine region_last m Φ hstab hchk hsz k ol hk hks hg hd fun a w hE hF hP => ?_
  simp only [Bool.and_eq_true] at hchk
  have hin : ∀ o ∈ ops.toList.take k, ∀ d, o.dst = some d → d < a0.tmps.size := fun o ho d hd => by
    have := hchk.2
    rw [hks, Nat.add_sub_cancel] at this
    have := List.all_eq_true.1 this o ho
    rw [hd] at this
    rw [hsz]; simpa using this
  have hr : ∀ o ∈ ops.toList, o ∈ ops.toList.take k ∨ o.dst = none := fun o ho => by
    obtain ⟨i, hi, e⟩ := List.getElem_of_mem ho
    by_cases hik : i < k
    · left
      exact List.mem_of_getElem? (i := i) (by rw [List.getElem?_take, if_pos hik, List.getElem?_eq_getElem hi, e])
    · right
      have hi' : i = k := by simp at hi; omega
      subst hi'
      have : ops.toList[i]? = some ol := by simpa using hk
      rw [List.getElem?_eq_getElem hi, e] at this
      rw [Option.some.inj this]; exact hdn
  rw [framed_filled hF (ops.toList.take k) (fun _ h => List.mem_of_mem_take h) hr hin]
  refine hlast _ w hE (by simp) fun i u hu => ?_
  rw [List.getElem?_map, Option.map_eq_some_iff] at hu
  obtain ⟨o, ho, rfl⟩ := hu
  have hik : i < k := by
    have := (List.getElem?_eq_some_iff.1 ho).1
    simp at this; omega
  rw [List.getElem?_take, if_pos hik] at ho
  exact hP i o hik (by simpa using ho)
theorem wp_region_last_e {id : Nat} {a0 : Act} {w0 : World} (m : Nat) (hm : P.follows .mixedOrders = true) (Φ : Nat → Value → World → Prop)
    (hstab : ∀ i v w w', Φ i v w → Ext w w' → Φ i v w') (hchk : (dstsOk ops && aheadB ops && coverOk ops && ((ops.toList.take (ops.size - 1)).all fun o => o.dst.any fun d => decide (d < m))) = true) (hsz : a0.tmps.size = m)
    (k : Nat) (ol : Oper) (hk : ops[k]? = some ol) (hks : ops.size = k + 1) (hg : ol.guard = none) (hdn : ol.dst = none)
    (hd : Duties P ops Q Φ a0 w0 0 (ops.toList.take k))
    (hlast : ∀ us w, Ext w0 w → us.length = (ops.toList.take k).length → (∀ i u, us[i]? = some u → Φ i u w) → ol.wp P (filled (ops.toList.take k) us a0) w (fun a' w' => Q .normal a' w') Q) :
    (Code.region id ops true).wp P Q a0 w0 := wp_region_P hm (region_last_e m Φ hstab hchk hsz k ol hk hks hg hdn hd hlast)

theorem us8 (us : List Value) (h : us.length = 8) : ∃ u0 u1 u2 u3 u4 u5 u6 u7 : Value, us = [u0, u1, u2, u3, u4, u5, u6, u7] := by
  match us, h with
  | [u0, u1, u2, u3, u4, u5, u6, u7], _ => exact ⟨_, _, _, _, _, _, _, _, rfl⟩
theorem us10 (us : List Value) (h : us.length = 10) : ∃ u0 u1 u2 u3 u4 u5 u6 u7 u8 u9 : Value, us = [u0, u1, u2, u3, u4, u5, u6, u7, u8, u9] := by
  match us, h with
  | [u0, u1, u2, u3, u4, u5, u6, u7, u8, u9], _ => exact ⟨_, _, _, _, _, _, _, _, _, _, rfl⟩
theorem us13 (us : List Value) (h : us.length = 13) : ∃ u0 u1 u2 u3 u4 u5 u6 u7 u8 u9 u10 u11 u12 : Value, us = [u0, u1, u2, u3, u4, u5, u6, u7, u8, u9, u10, u11, u12] := by
  match us, h with
  | [u0, u1, u2, u3, u4, u5, u6, u7, u8, u9, u10, u11, u12], _ => exact ⟨_, _, _, _, _, _, _, _, _, _, _, _, _, rfl⟩
end Go.Proofs.YthinpbdbhijbgaaGreatDoor
namespace Go.Proofs.YthinpbdbhijbgaaGreatDoor
open Go.RowKit

section
variable {P : Program}
theorem oper_put {w : World} {o : Oper} {a : Act} {K : Act → World → Prop} {Q : Exit → Act → World → Prop} (m x v : Operand) (t : TypeId) (hop : o.op = Op.mapUpdate t m x v)
    (kt e : TypeId) (hk : P.underlying kt = some .string) (ht : P.underlying t = some (.map kt e)) (b : Nat) (mm : List (Key × Value)) (h : SMap P kt w b mm) (hn : mm.length < maxLen)
    (hm : a.eval m = .map (some b)) (s : ByteArray) (hs : s.size ≤ maxLen) (hx : a.eval x = .string s) (val : Value) (hv : a.eval v = val)
    (hK : ∀ w', SMap P kt w' b (mput mm s.data.toList val) → w.mapTurned w' b → K (a.put o.dst undef) w') : o.wp P a w K Q := by
  obtain ⟨w', hrun, r1, r2⟩ := h.store hk ht hn hs val
  unfold Oper.wp
  simp [execOp, hop, hm, hx, hv, hrun, Result.andThen]
  exact hK w' r1 r2

theorem wpList_put (w : World) {ops : Array Oper} {rest : List Oper} {o : Oper} {a : Act} {Q : Exit → Act → World → Prop} (hg : o.guard = none) (m x v : Operand) (t : TypeId) (hop : o.op = Op.mapUpdate t m x v)
    (kt e : TypeId) (hk : P.underlying kt = some .string) (ht : P.underlying t = some (.map kt e)) (b : Nat) (mm : List (Key × Value)) (h : SMap P kt w b mm) (hn : mm.length < maxLen)
    (hm : a.eval m = .map (some b)) (s : ByteArray) (hs : s.size ≤ maxLen) (hx : a.eval x = .string s) (val : Value) (hv : a.eval v = val)
    (hK : ∀ w', SMap P kt w' b (mput mm s.data.toList val) → w.mapTurned w' b → wpList P ops Q rest (a.put o.dst undef) w') : wpList P ops Q (o :: rest) a w :=
  wpList_plain hg fun K hK' => oper_put m x v t hop kt e hk ht b mm h hn hm s hs hx val hv fun w' h1 h2 => hK' _ _ (hK w' h1 h2)

end

variable {P : Program} {w : World} {a : Act} {o : Oper}
theorem ex_nilCheck {x : Operand} (ho : o.op = .nilCheck x) (p : Addr) (hx : a.eval x = .pointer (some p)) : (execOp a.eval o).run P w = .ok (.value (.pointer (some p))) w := by
  unfold execOp; simp only [ho, hx]; simp [go_sem]
def oneD : TypeDesc → Bool
  | .struct _ => false
  | .array _ _ => false
  | _ => true
theorem ex_cell {ty : TypeId} {x : Operand} (ho : o.op = .load ty x) (p : Addr) (v : Value) (hx : a.eval x = .pointer (some p)) (hc : w.cell? p = some v) {d : TypeDesc} (hd : oneD d = true) (hu : P.underlying ty = some d) :
    (execOp a.eval o).run P w = .ok (.value v) w := by
  unfold execOp
  simp only [ho, hx, Instr.loadAt, Instr.sureAddr, loadVar, isAgg, Sem.run_bind, Sem.run_pure, Result.andThen_ok, run_underlying hu]
  cases d <;> first | (simp [oneD] at hd; done) | simp [load, hc, Sem.run, Result.andThen]
end Go.Proofs.YthinpbdbhijbgaaGreatDoor
namespace Go.Proofs.YthinpbdbhijbgaaGreatDoor
open Go.RowKit
set_option maxHeartbeats 1000000
set_option maxRecDepth 100000

def rootP : ByteArray := ⟨#[47]⟩
/-- What Parent and Name hand back. -/
def parV (s : ByteArray) : Value := if vpath s = true ∧ s.size ≠ 1 then .tuple #[.string (parentB s), .int .i64 0] else .tuple #[.string ⟨#[]⟩, .int .i64 30]
def namV (s : ByteArray) : Value := if vpath s = true then .tuple #[.string (nameB s), .int .i64 0] else .tuple #[.string ⟨#[]⟩, .int .i64 30]

theorem root_iff {s : ByteArray} (h : vpath s = true) : s.size = 1 ↔ s.data.toList = [47] := by
  obtain ⟨h1, _, h3, _⟩ := vpath_facts h
  constructor
  · intro e
    have := drop_at_slash (s := s) (i := 0) (by omega) h3
    rw [List.drop_zero] at this
    rw [this, List.drop_eq_nil_of_le (by rw [size_list]; omega)]
  · intro e; rw [← size_list, e]; rfl

theorem parent_any (s : ByteArray) (w : World) (hs : s.size ≤ 9223372036854775800) : Calls Tryz.prog 121 #[.string s] w fun e w' => e = .returned (parV s) ∧ Below w.heap.size w w' := by
  have C1 := valid_any s w (by omega)
  by_cases hv : vpath s = true
  · have hroot := root_iff hv
    have hf := vpath_facts hv
    rw [hv] at C1
    by_cases h1 : s.size = 1
    · have e1 : (s.toList == [47]) = true := by rw [ByteArray.toList_eq]; simpa using hroot.1 h1
      have e2 : s.toList = [47] := by simpa using e1
      have R : Hid (parV s = .tuple #[.string ⟨#[]⟩, .int .i64 30]) := by unfold Hid parV; rw [if_neg (by simp [h1])]
      have C1 := Lib.hid C1
      clear h1 hroot hf hv
      go_enter Tryz.func121, Tryz.ntmps121
      go_wp2_with fail
      refine C1.out.mono ?_
      rintro e w1 ⟨rfl, hb1⟩
      clear C1
      go_wp2
      go_ret2
      exact ⟨by rw [R.out]; rfl, hb1⟩
    · have e1 : (s.toList == [47]) = false := by rw [ByteArray.toList_eq]; simpa using fun h => h1 (hroot.2 h)
      have e2 : ¬ s.toList = [47] := by simpa using e1
      have R : Hid (parV s = .tuple #[.string (s.extract 0 (max (lastS s) 1).toNat), .int .i64 0]) := by unfold Hid parV parentB; rw [if_pos ⟨hv, h1⟩]
      have C1 := Lib.hid C1
      have C2 := fun w => Tryz.strings_LastIndexByte s 47 (by omega) w
      obtain ⟨i, e, hi, _, _⟩ := lastS_spec hv
      have hm1 : (1 : Int) ≤ max (i : Int) 1 := by omega
      have hm2 : max (i : Int) 1 ≤ (s.size : Int) := by omega
      change ∀ w, Calls _ _ _ w (fun e w' => e = .returned (.int .i64 (lastS s)) ∧ w' = w) at C2
      rw [e] at C2 R
      have C2 := Lib.hid C2
      clear hroot hf hv h1 e
      go_enter Tryz.func121, Tryz.ntmps121
      go_wp2_with fail
      refine C1.out.mono ?_
      rintro e w1 ⟨rfl, hb1⟩
      clear C1
      go_wp2_with fail
      refine (C2.out _).mono ?_
      rintro e w2 ⟨rfl, rfl⟩
      clear C2
      go_wp2
      go_ret2
      exact ⟨by rw [R.out]; rfl, hb1⟩
  · have hv' : vpath s = false := by simpa using hv
    have R : Hid (parV s = .tuple #[.string ⟨#[]⟩, .int .i64 30]) := by unfold Hid parV; rw [if_neg (by simp [hv'])]
    rw [hv'] at C1
    have C1 := Lib.hid C1
    clear hv hv'
    go_enter Tryz.func121, Tryz.ntmps121
    go_wp2_with fail
    refine C1.out.mono ?_
    rintro e w1 ⟨rfl, hb1⟩
    clear C1
    go_wp2
    go_ret2
    exact ⟨by rw [R.out]; rfl, hb1⟩

theorem name_any (s : ByteArray) (w : World) (hs : s.size ≤ 9223372036854775800) : Calls Tryz.prog 127 #[.string s] w fun e w' => e = .returned (namV s) ∧ Below w.heap.size w w' := by
  have C1 := valid_any s w (by omega)
  by_cases hv : vpath s = true
  · have hf := vpath_facts hv
    rw [hv] at C1
    have R : Hid (namV s = .tuple #[.string (s.extract (lastS s + 1).toNat s.size), .int .i64 0]) := by unfold Hid namV nameB; rw [if_pos hv]
    have C1 := Lib.hid C1
    have C2 := fun w => Tryz.strings_LastIndexByte s 47 (by omega) w
    obtain ⟨i, e, hi, _, _⟩ := lastS_spec hv
    change ∀ w, Calls _ _ _ w (fun e w' => e = .returned (.int .i64 (lastS s)) ∧ w' = w) at C2
    rw [e] at C2 R
    have C2 := Lib.hid C2
    clear hf hv e
    go_enter Tryz.func127, Tryz.ntmps127
    go_wp2_with fail
    refine C1.out.mono ?_
    rintro e w1 ⟨rfl, hb1⟩
    clear C1
    go_wp2_with fail
    refine (C2.out _).mono ?_
    rintro e w2 ⟨rfl, rfl⟩
    clear C2
    go_wp2
    go_ret2
    exact ⟨by rw [R.out]; rfl, hb1⟩
  · have hv' : vpath s = false := by simpa using hv
    have R : Hid (namV s = .tuple #[.string ⟨#[]⟩, .int .i64 30]) := by unfold Hid namV; rw [if_neg (by simp [hv'])]
    rw [hv'] at C1
    have C1 := Lib.hid C1
    clear hv hv'
    go_enter Tryz.func127, Tryz.ntmps127
    go_wp2_with fail
    refine C1.out.mono ?_
    rintro e w1 ⟨rfl, hb1⟩
    clear C1
    go_wp2
    go_ret2
    exact ⟨by rw [R.out]; rfl, hb1⟩
end Go.Proofs.YthinpbdbhijbgaaGreatDoor
namespace Go.Proofs.YthinpbdbhijbgaaGreatDoor
open Go.RowKit
set_option maxHeartbeats 2000000
set_option maxRecDepth 100000

def PhiL (B bt bn : Nat) (n : Nd) (cs : Array Value) : Nat → Value → World → Prop
  | 0, v, _ => v = .pointer (some ⟨bt, 0, none⟩)
  | 1, v, _ => v = .pointer (some ⟨bt, 0, none⟩)
  | 2, v, _ => v = .pointer (some ⟨bt, 0, none⟩)
  | 3, v, _ => v = .map (some bn)
  | 4, v, _ => v = .pointer (some ⟨B, 0, none⟩)
  | 5, v, _ => v = .string n.path
  | 6, v, _ => v = .agg cs
  | 7, v, w => NdS (fun b => B < b ∧ b < w.heap.size) w v n
  | _, _, _ => True
theorem PhiL.stab (B bt bn : Nat) (n : Nd) (cs : Array Value) (i : Nat) (v : Value) (w w' : World) (h : PhiL B bt bn n cs i v w) (he : Ext w w') : PhiL B bt bn n cs i v w' := by
  unfold PhiL at h ⊢
  split at h <;> first | exact h | exact h.imp (fun b hb => ⟨hb.1, Nat.lt_of_lt_of_le hb.2 he.size⟩) (fun b o u hb hu => (he.cell (p := ⟨b, o, none⟩) hb.2).trans hu)

theorem Mod.turned_new {S : Nat → Prop} {w a b : World} {g : Nat} (h : Mod S w a) (ht : a.mapTurned b g) (hg : w.heap.size ≤ g) : Mod S w b :=
  ⟨by obtain ⟨_, _, _, _, _, rfl⟩ := ht; exact h.os, by obtain ⟨_, _, _, _, _, rfl⟩ := ht; exact h.tape, by obtain ⟨_, _, _, _, _, rfl⟩ := ht; exact h.output, by rw [turned_size ht]; exact h.size, fun k o hk ho =>
    (turned_other ht (by have := (Array.getElem?_eq_some_iff.1 hk).1; omega)).trans (h.same k o hk ho)⟩

theorem lay_nodes {S : Nat → Prop} {w w2 w3 : World} {bt bn bk : Nat} {M : List (Key × Nd)} {N : Nat} {n : Nd} {v : Value} {m : List (Key × Value)} (hd : Hd S w bt bn bk) (hNd : NodesAt S w bn M N) (hm : SMap Tryz.prog 9 w bn m) (hr : Rel2 (fun n v => NdS S w v n) M m)
    (he : Ext w w2) (hn : rightN n = 0) (h7 : NdS (fun b => w.heap.size < b ∧ b < w2.heap.size) w2 v n) (hs3 : SMap Tryz.prog 9 w3 bn (mput m n.path.data.toList v)) (ht3 : w2.mapTurned w3 bn) :
    NodesAt (fun k => S k ∨ (w.heap.size ≤ k ∧ k < w3.heap.size)) w3 bn (mput M (keyN n) n) (N + 1) := by
  have hz := turned_size ht3
  have hS : ∀ k, S k → S k ∨ (w.heap.size ≤ k ∧ k < w3.heap.size) := fun k h => .inl h
  have hc : ∀ (b o : Nat) u, S b → w.cell? ⟨b, o, none⟩ = some u → w2.cell? ⟨b, o, none⟩ = some u := fun b o u hb hu => (he.cell (p := ⟨b, o, none⟩) (hd.bound b hb)).trans hu
  have h2 := hNd.keep (S' := fun k => S k ∨ (w.heap.size ≤ k ∧ k < w3.heap.size)) (he.block bn (hd.bound _ hd.sn)) hS hc (Nat.le_refl N)
  exact h2.put hn (h7.imp (fun b hb => .inr ⟨by omega, by omega⟩) (fun _ _ _ _ h => h)) (hm.keep (he.block bn (hd.bound _ hd.sn))) (hr.imp fun _ _ _ hv => hv.imp hS hc) hs3 ht3

theorem lay_kids {S : Nat → Prop} {w w2 w3 : World} {bt bn bk : Nat} {K : List (Key × Nat)} {M : List (Key × Nd)} {N : Nat} (hd : Hd S w bt bn bk) (hKd : KidsAt S w bn bk K M N) (he : Ext w w2) (ht3 : w2.mapTurned w3 bn) : KidsAt S w3 bn bk K M N :=
  hKd.keep ((turned_other ht3 hd.ne.symm).trans (he.block bk (hd.bound _ hd.sk))) (fun _ h => h) (fun x hx => (turned_other ht3 (hKd.each x hx).2.1).trans (he.block _ (hd.bound _ (hKd.each x hx).1))) (Nat.le_refl N)

theorem lay_any (S : Nat → Prop) (w : World) (bt : Nat) (M : List (Key × Nd)) (N : Nat) (hT : TreeAt S w bt M N) (n : Nd) (da aa : Option Addr) (dc ac : Nat) (hn : rightN n = 0) (hne : mget M (keyN n) = none) (hN : N < 4611686018427387904)
    (hD : Cells w.heap.size w da (n.data.map u8v)) (hA : Cells w.heap.size w aa (acCs n.acl)) :
    Calls Tryz.prog 68 #[.pointer (some ⟨bt, 0, none⟩), .agg (ndC n (.slice da n.data.length dc) (.slice aa n.acl.length ac))] w fun e w' =>
      e = .returned (.tuple #[]) ∧ TreeAt (fun k => S k ∨ (w.heap.size ≤ k ∧ k < w'.heap.size)) w' bt (mput M (keyN n) n) (N + 1) ∧ Mod S w w' := by
  obtain ⟨bn, bk, K, hd, hNd, hKd⟩ := hT
  obtain ⟨m, hm, hr⟩ := hNd.ex
  have hml : m.length ≤ N := by rw [← hr.length]; exact hNd.len
  have hfit := right_fit hn
  have hvp := right_vpath hn
  have hvf := vpath_facts hvp
  obtain ⟨W1, hW1⟩ : ∃ W1, W1 = w.alloc (.cells (ndC n (.slice da n.data.length dc) (.slice aa n.acl.length ac)) 44) := ⟨_, rfl⟩
  have he1 : Ext w W1 := by rw [hW1]; exact Ext.alloc _ _
  have hs1 : W1.heap.size = w.heap.size + 1 := by rw [hW1]; simp
  have hn1 : W1.heap[w.heap.size]? = some (.cells (ndC n (.slice da n.data.length dc) (.slice aa n.acl.length ac)) 44 (0, 0)) := by rw [hW1]; exact heap_alloc_new w _
  have hbt1 : W1.heap[bt]? = some (.cells (treeC bn bk) 123 (0, 0)) := (he1.block bt (hd.bound _ hd.st)).trans hd.blk
  have hm1 : SMap Tryz.prog 9 W1 bn m := hm.keep (he1.block bn (hd.bound _ hd.sn))
  have hD1 := hD.ext he1
  have hA1 := hA.ext he1
  have HW1 := Lib.hid hW1
  unfold ndC at HW1 ⊢
  clear hW1
  go_enter Tryz.func68, Tryz.ntmps68
  go_wp2
  rw [← HW1.out]
  have hen := fun (f : FuncId) (fn : Func) (c : Code) (hf : Tryz.prog.funcs[f]? = some fn) (hname : (fn.name == "runtime.NumGoroutine") = false) (hb : fn.body = some c) => enters_f hf hname hb
  refine wp_region_last_e 52 (by kernel_rfl) (PhiL w.heap.size bt bn n (ndC n (.slice da n.data.length dc) (.slice aa n.acl.length ac))) (PhiL.stab _ _ _ _ _) (by decide) rfl 8 _ rfl rfl rfl rfl ?_ ?fin
  · refine ⟨?_, ?_, ?_, ?_, ?_, ?_, ?_, ?_, trivial⟩
    · exact duty_free rfl fun a w' hE hF hA => wp_value (w' := w') (ex_move rfl) ⟨_, rfl, hF.slot 0 _ (by decide) rfl, Ext.refl _⟩
    · refine duty_free rfl fun a w' hE hF hA => ?_
      have x1 : a.eval (.tmp 8) = _ := hA.slot 0 8 rfl rfl ⟨⟨0, .data⟩, by simp, rfl, rfl⟩
      exact wp_value (ex_nilCheck rfl _ x1) ⟨_, rfl, rfl, Ext.refl _⟩
    · refine duty_free rfl fun a w' hE hF hA => ?_
      have x1 : a.eval (.tmp 9) = _ := hA.slot 1 9 rfl rfl ⟨⟨1, .data⟩, by simp, rfl, rfl⟩
      exact wp_value (v := .pointer (some ⟨bt, 0, none⟩)) (w' := w') (by simp only [execOp, x1]; simp [go_sem]) ⟨_, rfl, rfl, Ext.refl _⟩
    · refine duty_free rfl fun a w' hE hF hA => ?_
      have x1 : a.eval (.tmp 10) = _ := hA.slot 2 10 rfl rfl ⟨⟨2, .data⟩, by simp, rfl, rfl⟩
      refine wp_value (ex_cell rfl _ (.map (some bn)) x1 ?_ rfl Tryz.underlying120) ⟨_, rfl, rfl, Ext.refl _⟩
      exact cell_of_row w' bt 0 _ _ _ ((hE.block bt (Array.getElem?_eq_some_iff.1 hbt1).1).trans hbt1)
    · refine duty_free rfl fun a w' hE hF hA => ?_
      have x1 : a.eval (.tmp 3) = _ := hF.slot 3 (.pointer (some ⟨w.heap.size, 0, none⟩)) (by decide) rfl
      exact wp_value (v := .pointer (some ⟨w.heap.size, 0, none⟩)) (w' := w') (by simp only [execOp, x1]; simp [go_sem]) ⟨_, rfl, rfl, Ext.refl _⟩
    · refine duty_free rfl fun a w' hE hF hA => ?_
      have x1 : a.eval (.tmp 12) = _ := hA.slot 4 12 rfl rfl ⟨⟨4, .data⟩, by simp, rfl, rfl⟩
      refine wp_value (ex_cell rfl _ (.string n.path) x1 ?_ rfl Tryz.underlying9) ⟨_, rfl, rfl, Ext.refl _⟩
      exact cell_of_row w' w.heap.size 0 _ _ _ ((hE.block w.heap.size (Array.getElem?_eq_some_iff.1 hn1).1).trans hn1)
    · refine duty_free rfl fun a w' hE hF hA => ?_
      have x1 : a.eval (.tmp 3) = _ := hF.slot 3 (.pointer (some ⟨w.heap.size, 0, none⟩)) (by decide) rfl
      exact wp_value (ex_load_row rfl w.heap.size x1 44 _ (0, 0) _ ((hE.block w.heap.size (Array.getElem?_eq_some_iff.1 hn1).1).trans hn1) Tryz.underlying44 rfl sizeNd) ⟨_, rfl, rfl, Ext.refl _⟩
    · refine duty_free rfl fun a w' hE hF hA => ?_
      have x1 : a.eval (.tmp 14) = _ := hA.slot 6 14 rfl rfl ⟨⟨6, .data⟩, by simp, rfl, rfl⟩
      refine wp_enter (ex_call rfl (hen _ _ _ Tryz.func129 (by kernel_rfl) rfl)) (by simp only [List.map_toArray, List.map_cons, List.map_nil, x1]; exact sclone_nd n da aa dc ac w' hfit.1 (hD1.ext hE) (hA1.ext hE)) ?_
      rintro e w4 ⟨v, rfl, hv, hb⟩
      exact ⟨_, rfl, v, rfl, hv.imp (fun b hb' => ⟨by have := hE.size; omega, hb'.2⟩) (fun _ _ _ _ h => h), hb⟩
  case fin =>
    intro us w2 hE hl hP
    obtain ⟨u0, u1, u2, u3, u4, u5, u6, u7, rfl⟩ := us8 us hl
    obtain rfl : u3 = .map (some bn) := hP 3 _ rfl
    obtain rfl : u5 = .string n.path := hP 5 _ rfl
    have h7 : NdS (fun b => w.heap.size < b ∧ b < w2.heap.size) w2 u7 n := hP 7 _ rfl
    clear hP hl hen
    have hm2 : SMap Tryz.prog 9 w2 bn m := hm1.keep (hE.block bn (by have := hd.bound _ hd.sn; omega))
    have q1 : m.length < maxLen := by unfold maxLen; omega
    have q2 : n.path.size ≤ maxLen := by unfold maxLen; omega
    have hQ := SMap.store hm2 strT Tryz.underlying120 q1 q2 u7
    have hQ1 := hQ.choose_spec
    generalize hQ.choose = w3 at hQ1
    have hrun := hQ1.1
    have hs3 := hQ1.2.1
    have ht3 := hQ1.2.2
    clear hQ1 hQ
    have he2 : Ext w w2 := he1.trans hE
    have hn2 := (hE.block w.heap.size (by omega)).trans hn1
    have hc3 := ((Mod.turned (S := fun _ => True) ht3 trivial).cells hn2)
    have hsz3 := turned_size ht3
    have hbt3 : w3.heap[bt]? = some (.cells (treeC bn bk) 123 (0, 0)) := (Mod.turned (S := fun _ => True) ht3 trivial).cells ((he2.block bt (hd.bound _ hd.st)).trans hd.blk)
    have hx3 : Box w3 w.heap.size (ndC n (.slice da n.data.length dc) (.slice aa n.acl.length ac)) := fun j => cell_of_row _ _ _ _ _ _ hc3
    have hy3 : Box w3 bt (treeC bn bk) := fun j => cell_of_row _ _ _ _ _ _ hbt3
    have HS3 := Lib.hid hs3
    have HT3 := Lib.hid ht3
    have HR := Lib.hid hr
    have HE2 := Lib.hid he2
    have HZ3 := Lib.hid hsz3
    clear hs3 ht3 hm2 hm1 hn2 hc3 hn1 hbt1 hbt3 hD1 hA1 hE HW1 hr he2 hsz3
    simp only [filled, List.take_succ_cons, List.take_zero, List.zip_cons_cons, List.zip_nil_right, List.foldl_cons, List.foldl_nil, Act.put]
    unfold Box ndC at hx3
    unfold Box treeC at hy3
    go_simp
    rename_i hK
    refine hK _ _ ?_
    clear hrun
    have hNn := lay_nodes hd hNd hm HR.out HE2.out hn h7 HS3.out HT3.out
    have hKn := lay_kids hd hKd HE2.out HT3.out
    have hMod : Mod S w w3 := (Mod.of_ext HE2.out).trans (Mod.turned HT3.out hd.sn)
    have hw3 : w.heap.size ≤ w3.heap.size := hMod.size
    have hbl : w3.heap[bt]? = some (.cells (treeC bn bk) 123 (0, 0)) := hMod.cells hd.blk
    clear HR HS3 HT3 HE2 HZ3 h7
    by_cases hroot : n.path.size = 1
    · have e1 : (n.path.toList == [47]) = true := by rw [ByteArray.toList_eq]; simpa using (root_iff hvp).1 hroot
      have e2 : n.path.toList = [47] := by simpa using e1
      have fin : TreeAt (fun k => S k ∨ (w.heap.size ≤ k ∧ k < w3.heap.size)) w3 bt (mput M (keyN n) n) (N + 1) :=
        ⟨bn, bk, K, ⟨hbl, .inl hd.st, .inl hd.sn, .inl hd.sk, hd.ne, fun k hk => hk.elim (fun h => Nat.lt_of_lt_of_le (hd.bound k h) hw3) (fun h => h.2)⟩, hNn,
          (hKn.put_root hNd.ok hn hne hroot).keep rfl (fun _ h => .inl h) (fun _ _ => rfl) (Nat.le_refl _)⟩
      have FIN := Lib.hid fin
      have HM := Lib.hid hMod
      clear fin hMod hNn hKn hroot hne
      go_wp2
      exact bodyPost_ret (results_none rfl _ _ _) rfl ⟨rfl, FIN.out, HM.out⟩
    · have e1 : (n.path.toList == [47]) = false := by rw [ByteArray.toList_eq]; simpa using fun h => hroot ((root_iff hvp).2 h)
      have e2 : ¬ n.path.toList = [47] := by simpa using e1
      have CP := parent_any n.path w3 (by omega)
      have CN := fun w => name_any n.path w (by omega)
      rw [show parV n.path = .tuple #[.string (parentB n.path), .int .i64 0] by unfold parV; rw [if_pos ⟨hvp, hroot⟩]] at CP
      rw [show namV n.path = .tuple #[.string (nameB n.path), .int .i64 0] by unfold namV; rw [if_pos hvp]] at CN
      have hsp := path_split hvp hroot
      have hps : (parentB n.path).size ≤ maxLen := by unfold maxLen; omega
      have hns : (nameB n.path).size ≤ maxLen := by
        have h1 : (nameB n.path).size ≤ n.path.size := by unfold nameB; rw [ByteArray.size_extract]; omega
        unfold maxLen; omega
      have CP := Lib.hid CP
      have CN := Lib.hid CN
      have HNE := Lib.hid hne
      have HROOT := Lib.hid hroot
      clear hne hroot hsp hvf
      go_wp2_with fail
      refine CP.out.mono ?_
      rintro e w4 ⟨rfl, hb4⟩
      have hx4 := Box.below (b := w.heap.size) hx3 hb4 (block_lt_of_cell (show w3.cell? ⟨w.heap.size, 0, none⟩ = _ from hx3 0))
      have hz4 := hb4.size
      clear CP
      unfold Box at hx4
      go_wp2_with fail
      refine (CN.out _).mono ?_
      rintro e w5 ⟨rfl, hb5⟩
      have he5 : Ext w3 w5 := Ext.trans hb4 hb5
      have hlt3 : bt < w3.heap.size := (Array.getElem?_eq_some_iff.1 hbl).1
      have hy5 : Box w5 bt (treeC bn bk) := Box.below (b := bt) (B := w3.heap.size) hy3 he5 hlt3
      have hbS : ∀ k, S k → k < w3.heap.size := fun k h => Nat.lt_of_lt_of_le (hd.bound k h) hw3
      have hK5 : KidsAt S w5 bn bk K M N := hKn.keep (he5.block bk (hbS _ hd.sk)) (fun _ h => h) (fun x hx => he5.block _ (hbS _ (hKn.each x hx).1)) (Nat.le_refl _)
      have hM5 : Mod S w w5 := hMod.trans (Mod.of_ext he5)
      have hw5 : w.heap.size ≤ w5.heap.size := hM5.size
      have hl5 := SMap.look (e := 157) hK5.map strT Tryz.underlying121 (z := .map none) (by kernel_rfl) hps
      rw [kidsV_get] at hl5
      clear CN hx4 hx3 hy3 hb4 hb5 hz4 hKn hMod
      unfold Box treeC at hy5
      cases hg : mget K (parentB n.path).data.toList with
      | some b =>
        rw [hg] at hl5
        have hl5' : (Instr.lookup 121 (.map (some bk)) (.string (parentB n.path)) false).run Tryz.prog w5 = .ok (.map (some b)) w5 := hl5
        clear hl5
        have hE := hK5.each _ (mget_some_mem hg)
        have hSb : S b := hE.1
        have hSM : SMap Tryz.prog 9 w5 b (kidsOf M (parentB n.path)) := by have := hE.2.2.2; rw [key_bytes] at this; exact this
        have hlen : (kidsOf M (parentB n.path)).length < maxLen := by
          have := kids_length M (parentB n.path)
          have := hNd.len
          unfold maxLen; omega
        have heq := fun w : World => run_eql_map_nil (P := Tryz.prog) w 157 9 205 (some b) Tryz.underlying157
        have hfin : ∀ w6 : World, SMap Tryz.prog 9 w6 b (mput (kidsOf M (parentB n.path)) (nameB n.path).data.toList (.agg #[])) → w5.mapTurned w6 b →
            TreeAt (fun k => S k ∨ (w.heap.size ≤ k ∧ k < w6.heap.size)) w6 bt (mput M (keyN n) n) (N + 1) ∧ Mod S w w6 := fun w6 hs6 ht6 => by
          have hz6 := turned_size ht6
          have hM6 : Mod S w w6 := hM5.trans (Mod.turned ht6 hSb)
          have hM36 : Mod S w3 w6 := (Mod.of_ext he5).trans (Mod.turned ht6 hSb)
          have hz5 := he5.size
          have hS' : ∀ k, (S k ∨ (w.heap.size ≤ k ∧ k < w3.heap.size)) → S k ∨ (w.heap.size ≤ k ∧ k < w6.heap.size) := fun k h => h.imp id fun h => ⟨h.1, by omega⟩
          refine ⟨⟨bn, bk, K, ⟨hM6.cells hd.blk, .inl hd.st, .inl hd.sn, .inl hd.sk, hd.ne, fun k hk => hk.elim (fun h => by have := hbS k h; omega) (fun h => h.2)⟩, ?_, ?_⟩, hM6⟩
          · exact hNn.keep ((turned_other ht6 hE.2.1.symm).trans (he5.block bn (hbS _ hd.sn))) hS' (fun b o u _ hu => hM36.cell hu) (Nat.le_refl _)
          · exact (hK5.put_old hNd.ok hn HNE.out HROOT.out hg hs6 ht6).keep rfl (fun _ h => .inl h) (fun _ _ => rfl) (Nat.le_refl _)
        have HFIN := Lib.hid hfin
        clear hfin hE hK5 hNn hM5 he5 hbS hw5 hw3 HNE HROOT hlt3 hbl hg
        go_wp2_with (at_mapUpdate; refine wpList_put _ rfl _ _ _ 157 rfl 9 205 strT Tryz.underlying157 b _ hSM hlen rfl (nameB n.path) hns rfl _ rfl ?_; intro w6 hs6 ht6)
        exact bodyPost_end (results_none rfl _ _ _) rfl ⟨rfl, (HFIN.out w6 hs6 ht6).1, (HFIN.out w6 hs6 ht6).2⟩
      | none =>
        rw [hg] at hl5
        have hl5' : (Instr.lookup 121 (.map (some bk)) (.string (parentB n.path)) false).run Tryz.prog w5 = .ok (.map none) w5 := hl5
        clear hl5
        have heq := fun w : World => run_eql_map_nil (P := Tryz.prog) w 157 9 205 none Tryz.underlying157
        have hmm := @run_makeMap Tryz.prog
        have hz5 := he5.size
        have hb5 : ∀ k, S k → k < w5.heap.size := fun k h => by have := hbS k h; omega
        have hSM : SMap Tryz.prog 9 (w5.alloc (.map #[] 0)) bk (kidsV K) := hK5.map.keep (Below.heap_alloc w5 _ bk (hb5 _ hd.sk))
        have hlen : (kidsV K).length < maxLen := by
          have := hK5.len
          unfold kidsV maxLen; rw [List.length_map]; omega
        have hstep : ∀ w7 : World, SMap Tryz.prog 9 w7 bk (mput (kidsV K) (parentB n.path).data.toList (.map (some w5.heap.size))) → (w5.alloc (.map #[] 0)).mapTurned w7 bk →
            Box w7 bt (treeC bn bk) ∧ SMap Tryz.prog 9 w7 w5.heap.size [] ∧
            (Instr.lookup 121 (.map (some bk)) (.string (parentB n.path)) false).run Tryz.prog w7 = .ok (.map (some w5.heap.size)) w7 := fun w7 hs7 ht7 => by
          have hM7 : Mod S w w7 := (hM5.trans (Mod.of_ext (Ext.alloc w5 _))).trans (Mod.turned ht7 hd.sk)
          refine ⟨fun j => cell_of_row _ _ _ _ _ _ (hM7.cells hd.blk), (SMap.made _ _ w5).keep (turned_other ht7 (by have := hb5 _ hd.sk; omega)), ?_⟩
          have := SMap.look (e := 157) hs7 strT Tryz.underlying121 (z := .map none) (by kernel_rfl) hps
          rw [mget_of_mem (mput_sorted (SMap.sorted (Maps.string_keyed strT) hSM) _ _) (mem_mput.2 (.inl rfl))] at this
          exact this
        have hfin : ∀ w7 w8 : World, SMap Tryz.prog 9 w7 bk (mput (kidsV K) (parentB n.path).data.toList (.map (some w5.heap.size))) → (w5.alloc (.map #[] 0)).mapTurned w7 bk →
            SMap Tryz.prog 9 w8 w5.heap.size (mput [] (nameB n.path).data.toList (.agg #[])) → w7.mapTurned w8 w5.heap.size →
            TreeAt (fun k => S k ∨ (w.heap.size ≤ k ∧ k < w8.heap.size)) w8 bt (mput M (keyN n) n) (N + 1) ∧ Mod S w w8 := fun w7 w8 hs7 ht7 hs8 ht8 => by
          have hz7 := turned_size ht7
          have hz8 := turned_size ht8
          rw [World.size_alloc] at hz7
          have hM7 : Mod S w w7 := (hM5.trans (Mod.of_ext (Ext.alloc w5 _))).trans (Mod.turned ht7 hd.sk)
          have hM8 : Mod S w w8 := hM7.turned_new ht8 hw5
          have hM37 : Mod S w3 w7 := ((Mod.of_ext he5).trans (Mod.of_ext (Ext.alloc w5 _))).trans (Mod.turned ht7 hd.sk)
          have hM38 : Mod S w3 w8 := hM37.turned_new ht8 (by omega)
          have hS' : ∀ k, (S k ∨ (w.heap.size ≤ k ∧ k < w3.heap.size)) → S k ∨ (w.heap.size ≤ k ∧ k < w8.heap.size) := fun k h => h.imp id fun h => ⟨h.1, by omega⟩
          refine ⟨⟨bn, bk, mput K (parentB n.path).data.toList w5.heap.size, ⟨hM8.cells hd.blk, .inl hd.st, .inl hd.sn, .inl hd.sk, hd.ne, fun k hk => hk.elim (fun h => by have := hb5 k h; omega) (fun h => h.2)⟩, ?_, ?_⟩, hM8⟩
          · exact hNn.keep ((turned_other ht8 (by have := hb5 _ hd.sn; omega)).trans ((turned_other ht7 hd.ne).trans ((Below.heap_alloc w5 _ bn (hb5 _ hd.sn)).trans (he5.block bn (hbS _ hd.sn))))) hS' (fun b o u _ hu => hM38.cell hu) (Nat.le_refl _)
          · exact hK5.put_new hNd.ok hn HNE.out HROOT.out hg (fun _ h => .inl h) (.inr ⟨hw5, by omega⟩) (fun k h => by have := hb5 k h; omega) hd.sn hd.sk (fun k h => Below.heap_alloc w5 _ k (hb5 k h)) ht7 hs7 ht8 hs8
        have hl0 : ([] : List (Key × Value)).length < maxLen := by unfold maxLen; simp
        have HFIN := Lib.hid hfin
        have HSTEP := Lib.hid hstep
        clear hfin hstep hK5 hNn hM5 he5 hbS hw5 hw3 HNE HROOT hlt3 hbl hg hb5 hz5
        go_wp2_with (first | (at_mapUpdate; refine wpList_put _ rfl _ _ _ 121 rfl 9 157 strT Tryz.underlying121 bk _ hSM hlen rfl (parentB n.path) hps rfl (.map (some w5.heap.size)) rfl ?_; intro w7 hs7 ht7; have hq := HSTEP.out w7 hs7 ht7; have hl7 := hq.2.2; have hm7 := hq.2.1; have hy7 := hq.1; unfold Box treeC at hy7; clear hq hl5' hy5 hSM hlen) | (at_mapUpdate; refine wpList_put _ rfl _ _ _ 157 rfl 9 205 strT Tryz.underlying157 w5.heap.size _ hm7 hl0 rfl (nameB n.path) hns rfl (.agg #[]) rfl ?_; intro w8 hs8 ht8))
        exact bodyPost_end (results_none rfl _ _ _) rfl ⟨rfl, (HFIN.out w7 w8 hs7 ht7 hs8 ht8).1, (HFIN.out w7 w8 hs7 ht7 hs8 ht8).2⟩
end Go.Proofs.YthinpbdbhijbgaaGreatDoor
namespace Go.Proofs.YthinpbdbhijbgaaGreatDoor
open Go.RowKit
set_option maxHeartbeats 2000000
set_option maxRecDepth 100000

/-- A tree without nodes, as New and From begin it. -/
def emptyW (w : World) : World := ((w.alloc (.map #[] 0)).alloc (.map #[] 0)).alloc (.cells (treeC w.heap.size (w.heap.size + 1)) 123)
theorem emptyW_size (w : World) : (emptyW w).heap.size = w.heap.size + 1 + 1 + 1 := by simp [emptyW]
theorem emptyW_ext (w : World) : Ext w (emptyW w) := ((Ext.alloc w _).trans (Ext.alloc _ _)).trans (Ext.alloc _ _)
theorem tree_empty (w : World) : TreeAt (fun k => w.heap.size ≤ k ∧ k < (emptyW w).heap.size) (emptyW w) (w.heap.size + 1 + 1) [] 0 := by
  have hz := emptyW_size w
  have h1 : SMap Tryz.prog 9 (emptyW w) w.heap.size [] := (SMap.made Tryz.prog 9 w).keep (by
    show (((w.alloc (.map #[] 0)).alloc (.map #[] 0)).alloc _).heap[w.heap.size]? = _
    rw [Below.heap_alloc _ _ _ (by simp; omega), Below.heap_alloc _ _ _ (by simp)])
  have h2 : SMap Tryz.prog 9 (emptyW w) (w.heap.size + 1) [] := by
    have h := SMap.made Tryz.prog 9 (w.alloc (.map #[] 0))
    rw [World.size_alloc] at h
    refine h.keep ?_
    show (((w.alloc (.map #[] 0)).alloc (.map #[] 0)).alloc _).heap[w.heap.size + 1]? = _
    rw [Below.heap_alloc _ _ _ (by simp)]
  refine ⟨w.heap.size, w.heap.size + 1, [], ⟨?_, ⟨by omega, by omega⟩, ⟨by omega, by omega⟩, ⟨by omega, by omega⟩, by omega, fun k hk => hk.2⟩, ⟨⟨[], h1, .nil⟩, MOk.nil, Nat.le_refl _⟩, ⟨h2, Nat.le_refl _, fun x hx => by simp at hx, List.Pairwise.nil, fun p _ => rfl⟩⟩
  have h := heap_alloc_new ((w.alloc (.map #[] 0)).alloc (.map #[] 0)) (.cells (treeC w.heap.size (w.heap.size + 1)) 123)
  simp only [World.size_alloc] at h
  exact h

def rootAc : Ac := ⟨31, ⟨#[119, 111, 114, 108, 100]⟩, ⟨#[97, 110, 121, 111, 110, 101]⟩⟩
def rootN : Nd := newN rootP [] [rootAc] 0 0 0
theorem rootN_right : rightN rootN = 0 := by decide +kernel

def NewOut (w : World) (e : Ending) (w' : World) : Prop := ∃ b, e = .returned (.pointer (some ⟨b, 0, none⟩)) ∧ TreeAt (fun k => w.heap.size ≤ k ∧ k < w'.heap.size) w' b [(keyN rootN, rootN)] 1 ∧ Ext w w'

theorem new_any (w : World) : Calls Tryz.prog 14 #[] w (NewOut w) := by
  have hz := emptyW_size w
  have hE := emptyW_ext w
  have hTr := tree_empty w
  obtain ⟨W1, hW1⟩ : ∃ W1, W1 = (emptyW w).alloc (.cells #[.int .i32 31, .string ⟨#[119, 111, 114, 108, 100]⟩, .string ⟨#[97, 110, 121, 111, 110, 101]⟩] 129) := ⟨_, rfl⟩
  have hE1 : Ext (emptyW w) W1 := by rw [hW1]; exact Ext.alloc _ _
  have hs1 : W1.heap.size = w.heap.size + 1 + 1 + 1 + 1 := by rw [hW1, World.size_alloc, hz]
  have hA : Cells W1.heap.size W1 (some ⟨w.heap.size + 1 + 1 + 1, 0, none⟩) (acCs [rootAc]) := fun j u hj => by
    refine ⟨_, 0, rfl, by omega, ?_⟩
    have h := heap_alloc_new (emptyW w) (.cells #[.int .i32 31, .string ⟨#[119, 111, 114, 108, 100]⟩, .string ⟨#[97, 110, 121, 111, 110, 101]⟩] 129)
    rw [hz, ← hW1] at h
    rw [Nat.zero_add, cell_of_row _ _ _ _ _ _ h]
    simpa [acCs, acC, rootAc] using hj
  have C1 := snew_nd rootP [] [rootAc] 0 0 0 none (some ⟨w.heap.size + 1 + 1 + 1, 0, none⟩) 0 1 W1 (right_fit rootN_right).1 (Cells.nil _ _ _) hA
  rw [hW1] at C1
  have HW1 := Lib.hid hW1
  unfold emptyW treeC rootP at C1
  unfold emptyW treeC at HW1
  have C1 := Lib.hid C1
  have hmm := @run_makeMap Tryz.prog
  clear hA hW1
  go_enter Tryz.func14, Tryz.ntmps14
  go_wp2_with fail
  refine C1.out.mono ?_
  rintro e w2 ⟨v, rfl, hN, hb2⟩
  rw [← HW1.out] at hb2 hN
  obtain ⟨va, vc, vb, vd, rfl, h1, h2⟩ := hN
  have hE2 : Ext (emptyW w) w2 := hE1.trans hb2
  have hT2 := hTr.ext hE2
  have C2 := lay_any _ w2 _ [] 0 hT2 rootN va vb vc vd rootN_right rfl (by omega) (h1.cells fun b hb => hb.2) (h2.cells fun b hb => hb.2)
  have C2 := Lib.hid C2
  have hEw := hE.trans hE2
  clear C1 h1 h2 HW1 hmm hTr hT2 hb2
  go_wp2_with fail
  refine C2.out.mono ?_
  rintro e w3 ⟨rfl, hT3, hM⟩
  have hz2 := hE2.size
  have hz3 := hM.size
  have hfin : NewOut w (.returned (.pointer (some ⟨w.heap.size + 1 + 1, 0, none⟩))) w3 :=
    ⟨_, rfl, hT3.keep (fun _ _ => rfl) (fun k hk => ⟨by rcases hk with h | h <;> omega, hT3.bound k hk⟩) (fun k hk => hk.2) (Nat.le_refl _), hEw.trans' (hM.below (B := w.heap.size) (fun k hk => hk.1) (by omega))⟩
  have HF := Lib.hid hfin
  clear hfin C2 hT3 hM hEw
  go_wp2
  go_ret
  exact HF.out
end Go.Proofs.YthinpbdbhijbgaaGreatDoor
namespace Go.Proofs.YthinpbdbhijbgaaGreatDoor
open Go.RowKit
set_option maxHeartbeats 2000000
set_option maxRecDepth 100000

def zeroNd : Array Value := #[.string ⟨#[]⟩, .slice none 0 0, .slice none 0 0, .int .i64 0, .int .i64 0, .int .i64 0, .int .i64 0, .int .i64 0, .int .i64 0, .int .i64 0, .int .i64 0, .int .i32 0, .int .i32 0, .int .i32 0, .bool false, .int .i64 0, .int .i64 0]

/-- Below a block number nothing has turned; rows keep their size. -/
structure Shp (B : Nat) (w w' : World) : Prop where
  below : Below B w w'
  rows : ∀ (g : Nat) (cs : Array Value) (t : TypeId), w.heap[g]? = some (.cells cs t (0, 0)) → ∃ cs' : Array Value, w'.heap[g]? = some (.cells cs' t (0, 0)) ∧ cs'.size = cs.size
theorem Shp.refl (B : Nat) (w : World) : Shp B w w := ⟨Below.refl _ _, fun _ cs _ h => ⟨cs, h, rfl⟩⟩
theorem Shp.trans {B : Nat} {a b c : World} (h : Shp B a b) (k : Shp B b c) : Shp B a c := ⟨h.below.trans k.below, fun g cs t hg => by
  obtain ⟨c1, h1, h2⟩ := h.rows g cs t hg
  obtain ⟨c2, h3, h4⟩ := k.rows g c1 t h1
  exact ⟨c2, h3, h4.trans h2⟩⟩
theorem Shp.of_ext {B : Nat} {a b : World} (h : Ext a b) (hB : B ≤ a.heap.size) : Shp B a b := ⟨Below.mono h hB, fun g cs t hg => ⟨cs, (h.block g (Array.getElem?_eq_some_iff.1 hg).1).trans hg, rfl⟩⟩

def PhiT (n0 bt bn g : Nat) (s : ByteArray) (x : Value) (bb : Bool) : Nat → Value → World → Prop
  | 0, v, _ => v = .pointer (some ⟨bt, 0, none⟩)
  | 1, v, _ => v = .pointer (some ⟨bt, 0, none⟩)
  | 2, v, _ => v = .pointer (some ⟨bt, 0, none⟩)
  | 3, v, _ => v = .map (some bn)
  | 4, v, _ => v = .pointer (some ⟨g, 0, none⟩)
  | 5, v, _ => v = .string s
  | 6, v, _ => v = .tuple #[x, .bool bb]
  | 7, v, _ => v = .tuple #[x, .bool bb]
  | 8, v, _ => v = x
  | 9, v, _ => v = .bool bb
  | 10, v, w => ∃ (g : Nat) (cs : Array Value), v = .pointer (some ⟨g, 0, none⟩) ∧ n0 ≤ g ∧ w.heap[g]? = some (.cells cs 44 (0, 0)) ∧ cs.size = 17
  | 12, v, _ => v = .bool bb
  | _, _, _ => True
theorem PhiT.stab (B n0 bt bn g : Nat) (s : ByteArray) (x : Value) (bb : Bool) (i : Nat) (v : Value) (w w' : World) (h : PhiT n0 bt bn g s x bb i v w) (he : Shp B w w') : PhiT n0 bt bn g s x bb i v w' := by
  unfold PhiT at h ⊢
  split at h <;> first | exact h | (obtain ⟨g, cs, h1, h2, h3, h4⟩ := h; obtain ⟨c', k1, k2⟩ := he.rows g cs _ h3; exact ⟨g, c', h1, h2, k1, k2.trans h4⟩)

theorem there_region {id : Nat} {Q : Exit → Act → World → Prop} {a0 : Act} {w0 : World} (s0 s1 s2 s3 s4 s5 s6 s7 s8 s9 s10 s11 tt bx : Tmp) (pos : String) (m : Nat)
    (hsz : a0.tmps.size = m) (hnd : decide ([s0, s1, s2, s3, s4, s5, s6, s7, s8, s9, s10, s11].Nodup) = true) (hlt : ([s0, s1, s2, s3, s4, s5, s6, s7, s8, s9, s10, s11].all fun s => decide (s < m)) = true)
    (hnt : ([s0, s1, s2, s3, s4, s5, s6, s7, s8, s9, s10, s11].all fun s => s != tt && s != bx) = true)
    {S : Nat → Prop} {bt bn bk : Nat} {M : List (Key × Nd)} {N : Nat} (hd : Hd S w0 bt bn bk) (hNd : NodesAt S w0 bn M N) (g : Nat) (s : ByteArray) (cs : Array Value) (hbox : w0.heap[g]? = some (.cells cs 44 (0, 0))) (hcs : cs[0]? = some (.string s)) (hps : s.size ≤ maxLen)
    (htt : a0.tmps.getD tt undef = .pointer (some ⟨bt, 0, none⟩)) (hbx : a0.tmps.getD bx undef = .pointer (some ⟨g, 0, none⟩))
    (hend : ∀ u0 u1 u2 u3 u4 u5 u6 u7 u8 u9 u10 w, Ext w0 w → Q .normal (((((((((((((a0.put (some s0) u0).put (some s1) u1).put (some s2) u2).put (some s3) u3).put (some s4) u4).put (some s5) u5).put (some s6) u6).put (some s7) u7).put (some s8) u8).put (some s9) u9).put (some s10) u10).put (some s11) (.bool (mget M s.data.toList).isSome))) w) :
    (Code.region id #[{ dst := some s0, op := Op.move (Operand.tmp tt), type := 37, pos := pos, after := #[], guard := none }, { dst := some s1, op := Op.nilCheck (Operand.tmp s0), type := 0, pos := pos, after := #[{ on := 0, ground := Ground.data }], guard := none }, { dst := some s2, op := Op.fieldAddr 123 (Operand.tmp s1) 0, type := 0, pos := pos, after := #[{ on := 1, ground := Ground.data }], guard := none }, { dst := some s3, op := Op.load 120 (Operand.tmp s2), type := 120, pos := pos, after := #[{ on := 2, ground := Ground.data }], guard := none }, { dst := some s4, op := Op.fieldAddr 44 (Operand.tmp bx) 0, type := 0, pos := pos, after := #[], guard := none }, { dst := some s5, op := Op.load 9 (Operand.tmp s4), type := 9, pos := pos, after := #[{ on := 4, ground := Ground.data }], guard := none }, { dst := some s6, op := Op.lookup 120 (Operand.tmp s3) (Operand.tmp s5) true, type := 99, pos := pos, after := #[{ on := 3, ground := Ground.data }, { on := 5, ground := Ground.data }], guard := none }, { dst := some s7, op := Op.move (Operand.tmp s6), type := 99, pos := pos, after := #[{ on := 6, ground := Ground.data }], guard := none }, { dst := some s8, op := Op.extract (Operand.tmp s7) 0, type := 44, pos := pos, after := #[{ on := 7, ground := Ground.data }], guard := none }, { dst := some s9, op := Op.extract (Operand.tmp s7) 1, type := 4, pos := pos, after := #[{ on := 7, ground := Ground.data }, { on := 11, ground := Ground.gcOnly Departure.lateStores }], guard := none }, { dst := some s10, op := Op.alloc 44, type := 0, pos := pos, after := #[], guard := none }, { dst := none, op := Op.store 44 (Operand.tmp s10) (Operand.tmp s8), type := 0, pos := pos, after := #[{ on := 10, ground := Ground.data }, { on := 8, ground := Ground.data }, { on := 0, ground := Ground.phase }, { on := 1, ground := Ground.phase }, { on := 2, ground := Ground.phase }, { on := 3, ground := Ground.phase }, { on := 4, ground := Ground.phase }, { on := 5, ground := Ground.phase }, { on := 6, ground := Ground.phase }, { on := 7, ground := Ground.phase }, { on := 8, ground := Ground.phase }, { on := 9, ground := Ground.textOnly Departure.lateStores }, { on := 10, ground := Ground.phase }], guard := none }, { dst := some s11, op := Op.assign (Operand.tmp s9), type := 4, pos := pos, after := #[{ on := 9, ground := Ground.data }, { on := 11, ground := Ground.chain }, { on := 0, ground := Ground.phase }, { on := 1, ground := Ground.phase }, { on := 2, ground := Ground.phase }, { on := 3, ground := Ground.phase }, { on := 4, ground := Ground.phase }, { on := 5, ground := Ground.phase }, { on := 6, ground := Ground.phase }, { on := 7, ground := Ground.phase }, { on := 8, ground := Ground.phase }, { on := 9, ground := Ground.phase }, { on := 10, ground := Ground.phase }, { on := 11, ground := Ground.phase }], guard := none }] true).wp Tryz.prog Q a0 w0 := by
  obtain ⟨mm, hm, hr⟩ := hNd.ex
  have hx : ∃ (da : Option Addr) (dc : Nat × Nat) (aa : Option Addr) (ac : Nat × Nat) (nn : Nd), (mget mm s.data.toList).getD (.agg zeroNd) = .agg (ndC nn (.slice da dc.1 dc.2) (.slice aa ac.1 ac.2)) := by
    rcases hr.get s.data.toList with ⟨_, h2⟩ | ⟨y, v, _, h2, h3⟩
    · rw [h2]; exact ⟨none, (0, 0), none, (0, 0), ⟨⟨#[]⟩, [], [], 0, 0, 0, 0, 0, 0, 0, 0, 0, 0, 0, false, 0, 0⟩, rfl⟩
    · obtain ⟨da, dc, aa, ac, rfl, _⟩ := h3
      rw [h2]; exact ⟨da, (_, dc), aa, (_, ac), y, rfl⟩
  have hbb : (mget mm s.data.toList).isSome = (mget M s.data.toList).isSome := by
    rcases hr.get s.data.toList with ⟨h1, h2⟩ | ⟨y, v, h1, h2, _⟩
    · rw [h1, h2]; rfl
    · rw [h1, h2]; rfl
  obtain ⟨da, dc, aa, ac, nn, hx⟩ := hx
  have hbtl := hd.bound _ hd.st
  have hgl : g < w0.heap.size := (Array.getElem?_eq_some_iff.1 hbox).1
  simp only [List.all_cons, List.all_nil, Bool.and_eq_true, bne_iff_ne, ne_eq, Bool.and_true, decide_eq_true_eq] at hnt hlt
  have nt : ∀ (ops : Array Oper) (t : Tmp), ops.toList.map (·.dst) = [some s0, some s1, some s2, some s3, some s4, some s5, some s6, some s7, some s8, some s9, some s10, none, some s11] → (¬ s0 = t ∧ ¬ s1 = t ∧ ¬ s2 = t ∧ ¬ s3 = t ∧ ¬ s4 = t ∧ ¬ s5 = t ∧ ¬ s6 = t ∧ ¬ s7 = t ∧ ¬ s8 = t ∧ ¬ s9 = t ∧ ¬ s10 = t ∧ ¬ s11 = t) → (ops.toList.all fun o => o.dst != some t) = true := fun ops t h hn => by
    have e : (ops.toList.all fun o => o.dst != some t) = (ops.toList.map (·.dst)).all fun d => d != some t := by rw [List.all_map]; rfl
    rw [e, h]
    simp [hn]
  refine wp_region_rel_e m (Shp w0.heap.size) (Shp.refl _) (fun _ _ _ => Shp.trans) (fun w => ⟨(Below.refl _ w).drew, fun _ cs _ h => ⟨cs, h, rfl⟩⟩) (by kernel_rfl) (PhiT w0.heap.size bt bn g s ((mget mm s.data.toList).getD (.agg zeroNd)) (mget M s.data.toList).isSome) (PhiT.stab _ _ _ _ _ _ _ _) ?hund ?hchk hsz ?hd ?hend
  case hund =>
    intro i v w h ho
    by_cases h11 : i = 11
    · subst h11; exact trivial
    · match i, h11, ho with
      | 0, _, ho | 1, _, ho | 2, _, ho | 3, _, ho | 4, _, ho | 5, _, ho | 6, _, ho | 7, _, ho | 8, _, ho | 9, _, ho | 10, _, ho | 12, _, ho => simp at ho
      | i + 13, _, ho => simp at ho
  case hchk =>
    simp only [Bool.and_eq_true]
    refine ⟨⟨hnd, ?_⟩, ?_⟩
    · rfl
    · simp [hlt]
  case hend =>
    intro us w hS hl hP
    obtain ⟨u0, u1, u2, u3, u4, u5, u6, u7, u8, u9, u10, u11, u12, rfl⟩ := us13 us hl
    have e12 : u12 = .bool (mget M s.data.toList).isSome := hP 12 _ rfl
    rw [e12]
    have h := hend u0 u1 u2 u3 u4 u5 u6 u7 u8 u9 u10 w hS.below
    simp only [filled, List.zip_cons_cons, List.zip_nil_right, List.foldl_cons, List.foldl_nil, put_none]
    exact h
  case hd =>
    refine ⟨?_, ?_, ?_, ?_, ?_, ?_, ?_, ?_, ?_, ?_, ?_, ?_, ?_, trivial⟩
    · exact dutyR_free rfl fun a w' hE hF hA => wp_value (w' := w') (ex_move rfl) ⟨_, rfl, hF.slot tt _ (nt _ tt rfl (by simp [hnt])) htt, Shp.refl _ _⟩
    · refine dutyR_free rfl fun a w' hE hF hA => ?_
      have x1 : a.eval (.tmp s0) = _ := hA.slot 0 s0 rfl rfl ⟨⟨0, .data⟩, by simp, rfl, rfl⟩
      exact wp_value (ex_nilCheck rfl _ x1) ⟨_, rfl, rfl, Shp.refl _ _⟩
    · refine dutyR_free rfl fun a w' hE hF hA => ?_
      have x1 : a.eval (.tmp s1) = _ := hA.slot 1 s1 rfl rfl ⟨⟨1, .data⟩, by simp, rfl, rfl⟩
      exact wp_value (v := .pointer (some ⟨bt, 0, none⟩)) (w' := w') (by simp only [execOp, x1]; simp [go_sem]) ⟨_, rfl, rfl, Shp.refl _ _⟩
    · refine dutyR_free rfl fun a w' hE hF hA => ?_
      have x1 : a.eval (.tmp s2) = _ := hA.slot 2 s2 rfl rfl ⟨⟨2, .data⟩, by simp, rfl, rfl⟩
      refine wp_value (ex_cell rfl _ (.map (some bn)) x1 ?_ rfl Tryz.underlying120) ⟨_, rfl, rfl, Shp.refl _ _⟩
      exact cell_of_row w' bt 0 _ _ _ ((hE.below.block bt hbtl).trans hd.blk)
    · refine dutyR_free rfl fun a w' hE hF hA => ?_
      have x1 : a.eval (.tmp bx) = _ := hF.slot bx _ (nt _ bx rfl (by simp [hnt])) hbx
      exact wp_value (v := .pointer (some ⟨g, 0, none⟩)) (w' := w') (by simp only [execOp, x1]; simp [go_sem]) ⟨_, rfl, rfl, Shp.refl _ _⟩
    · refine dutyR_free rfl fun a w' hE hF hA => ?_
      have x1 : a.eval (.tmp s4) = _ := hA.slot 4 s4 rfl rfl ⟨⟨4, .data⟩, by simp, rfl, rfl⟩
      refine wp_value (ex_cell rfl _ (.string s) x1 ?_ rfl Tryz.underlying9) ⟨_, rfl, rfl, Shp.refl _ _⟩
      rw [cell_of_row w' g 0 _ _ _ ((hE.below.block g hgl).trans hbox)]
      exact hcs
    · refine dutyR_free rfl fun a w' hE hF hA => ?_
      have x1 : a.eval (.tmp s3) = _ := hA.slot 3 s3 rfl rfl ⟨⟨3, .data⟩, by simp, rfl, rfl⟩
      have x2 : a.eval (.tmp s5) = _ := hA.slot 5 s5 rfl rfl ⟨⟨5, .data⟩, by simp, rfl, rfl⟩
      have hq := SMap.look_ok (e := 44) (hm.keep (hE.below.block bn (hd.bound _ hd.sn))) strT Tryz.underlying120 (z := .agg zeroNd) (by kernel_rfl) hps
      rw [hbb] at hq
      exact wp_value (w' := w') (by simp only [execOp, x1, x2, hq, Sem.run_bind, Result.andThen_ok, Sem.run_pure]) ⟨_, rfl, rfl, Shp.refl _ _⟩
    · refine dutyR_free rfl fun a w' hE hF hA => ?_
      exact wp_value (w' := w') (ex_move rfl) ⟨_, rfl, hA.slot 6 s6 rfl rfl ⟨⟨6, .data⟩, by simp, rfl, rfl⟩, Shp.refl _ _⟩
    · refine dutyR_free rfl fun a w' hE hF hA => ?_
      have x1 : a.eval (.tmp s7) = _ := hA.slot 7 s7 rfl rfl ⟨⟨7, .data⟩, by simp, rfl, rfl⟩
      exact wp_value (v := (mget mm s.data.toList).getD (.agg zeroNd)) (w' := w') (by simp only [execOp, x1]; simp [go_sem]) ⟨_, rfl, rfl, Shp.refl _ _⟩
    · refine dutyR_free rfl fun a w' hE hF hA => ?_
      have x1 : a.eval (.tmp s7) = _ := hA.slot 7 s7 rfl rfl ⟨⟨7, .data⟩, by simp, rfl, rfl⟩
      exact wp_value (v := .bool (mget M s.data.toList).isSome) (w' := w') (by simp only [execOp, x1]; simp [go_sem]) ⟨_, rfl, rfl, Shp.refl _ _⟩
    · refine dutyR_free rfl fun a w' hE hF hA => ?_
      exact wp_value (w' := w'.alloc (.cells zeroNd 44)) (v := .pointer (some ⟨w'.heap.size, 0, none⟩)) (by kernel_rfl) ⟨_, rfl, ⟨_, _, rfl, hE.below.size, heap_alloc_new w' _, rfl⟩, Shp.of_ext (Ext.alloc _ _) hE.below.size⟩
    · refine dutyR_free rfl fun a w' hE hF hA => ?_
      obtain ⟨g', c', x1, hg0, hg', hc'⟩ := hA.slot 10 s10 rfl rfl ⟨⟨10, .data⟩, by simp, rfl, rfl⟩
      have x2 : a.eval (.tmp s8) = _ := hA.slot 8 s8 rfl rfl ⟨⟨8, .data⟩, by simp, rfl, rfl⟩
      rw [hx] at x2
      refine wp_store_row 44 (.tmp s10) (.tmp s8) rfl g' _ x1 x2 44 c' hg' sizeNd hc' (cells_node nn da aa _ _ _ _) ⟨_, rfl, trivial, ⟨⟨rfl, rfl, rfl, by simp, fun k hk => setRow_other _ _ _ _ (by omega)⟩, fun k cs t hk => ?_⟩⟩
      by_cases e : k = g'
      · subst e
        rw [hg'] at hk
        cases hk
        exact ⟨_, setRow_heap _ _ _ _ _ _ hg', hc'.symm⟩
      · exact ⟨cs, (setRow_other _ _ _ _ e).trans hk, rfl⟩
    · refine dutyR_free rfl fun a w' hE hF hA => ?_
      exact wp_value (w' := w') (ex_assign rfl) ⟨_, rfl, hA.slot 9 s9 rfl rfl ⟨⟨9, .data⟩, by simp, rfl, rfl⟩, Shp.refl _ _⟩
end Go.Proofs.YthinpbdbhijbgaaGreatDoor
