/- A region that draws its order, whose operations only add to memory: one duty for each operation, whatever the order. -/
import Derived.Test.YtfgjbcejpjcpeaaDoorLaw
import Derived.Orders
namespace Go.Proofs.YtfgjbcejpjcpeaaDoor
open Go.RowKit
variable {P : Program} {ops : Array Oper} {Q : Exit → Act → World → Prop}

/-- All that was there is as it was; the rest is new. -/
def Ext (w w' : World) : Prop := Below w.heap.size w w'
theorem Ext.refl (w : World) : Ext w w := Below.refl _ _
theorem Ext.trans {a b c : World} (h : Ext a b) (k : Ext b c) : Ext a c := Below.trans h (Below.mono k (Below.size h))
theorem Ext.trans' {a b c : World} (h : Ext a b) (k : Below a.heap.size b c) : Ext a c := Below.trans h k
theorem Ext.drew (w : World) : Ext w w.drew := (Below.refl _ w).drew
theorem Ext.alloc (w : World) (o : Obj) : Ext w (w.alloc o) := (Below.refl _ w).alloc (Nat.le_refl _) o

theorem wpOp_mono' {i : Nat} {a : Act} {w : World} {K K' : Act → World → Prop} (h : ∀ a w, K a w → K' a w) (hh : wpOp P ops Q i K a w) : wpOp P ops Q i K' a w := wpOp_mono h hh

/-- How many are not listed yet. -/
def unlisted (l : Array Bool) : Nat := l.toList.count false
theorem count_set_list : ∀ (l : List Bool) (i : Nat), l[i]? = some false → (l.set i true).count false + 1 = l.count false
  | [], i, h => by simp at h
  | b :: l, 0, h => by
    simp at h
    subst h
    simp
  | b :: l, i + 1, h => by
    have := count_set_list l i (by simpa using h)
    simp only [List.set_cons_succ, List.count_cons]
    omega
theorem unlisted_set (l : Array Bool) (i : Nat) (h : i < l.size) (hf : l[i] = false) : unlisted (l.setIfInBounds i true) + 1 = unlisted l := by
  unfold unlisted
  rw [Array.toList_setIfInBounds]
  exact count_set_list l.toList i (by simp [h, hf])

/-- One operation, whatever the order: no way out but its own end. -/
def wpOpP (P : Program) (ops : Array Oper) (Q : Exit → Act → World → Prop) (i : Nat) (K : Act → World → Prop) (a : Act) (w : World) : Prop :=
  match ops[i]? with
  | none => K a w
  | some o => if Region.wanted o (yielded ops a.tmps) then o.wp P a w K Q else K (a.put o.dst undef) w
theorem wpOpP_mono {i : Nat} {a : Act} {w : World} {K K' : Act → World → Prop} (h : ∀ a w, K a w → K' a w) (hh : wpOpP P ops Q i K a w) : wpOpP P ops Q i K' a w := by
  unfold wpOpP at *
  cases ho : ops[i]? with
  | none => rw [ho] at hh; exact h _ _ hh
  | some o =>
    rw [ho] at hh
    simp only [] at hh ⊢
    by_cases hw : Region.wanted o (yielded ops a.tmps) = true
    · rw [if_pos hw] at hh ⊢
      exact Oper.wp_mono h hh
    · rw [if_neg hw] at hh ⊢
      exact h _ _ hh
def wpAnyP (P : Program) (md : Region.Mode) (ops : Array Oper) (Q : Exit → Act → World → Prop) : Nat → Array Bool → Act → World → Prop
  | 0, l, a, w => Region.ready md ops l = [] ∧ Q .normal a w
  | fuel + 1, l, a, w => (Region.ready md ops l = [] → Q .normal a w) ∧ ∀ i ∈ Region.ready md ops l, wpOpP P ops Q i (wpAnyP P md ops Q fuel (l.setIfInBounds i true)) a w
theorem wpOp_of_P {i : Nat} {a : Act} {w : World} {K K' : Act → World → Prop} (h : ∀ a w, K a w → K' a w) (hh : wpOpP P ops Q i K a w) : wpOp P ops Q i K' a w := by
  have hh := wpOpP_mono h hh
  unfold wpOpP at hh
  unfold wpOp
  cases ho : ops[i]? with
  | none => rw [ho] at hh; exact hh
  | some o =>
    rw [ho] at hh
    simp only [] at hh ⊢
    by_cases hw : Region.wanted o (yielded ops a.tmps) = true
    · rw [if_pos hw] at hh ⊢
      exact .inl hh
    · rw [if_neg hw] at hh ⊢
      exact hh
theorem wpAny_of_P {md : Region.Mode} : ∀ (fuel : Nat) (l : Array Bool) (a : Act) (w : World), wpAnyP P md ops Q fuel l a w → wpAny P md ops Q fuel l a w
  | 0, _, _, _, h => h
  | fuel + 1, _, _, _, h => ⟨h.1, fun i hi => wpOp_of_P (wpAny_of_P fuel _) (h.2 i hi)⟩
/-- A region that draws its order, in any of its orders. -/
def RegionP (P : Program) (ops : Array Oper) (Q : Exit → Act → World → Prop) (a : Act) (w : World) : Prop :=
  wpAnyP P .any ops Q ops.size (Array.replicate ops.size false) a { w with drawn := w.drawn + 1 }
theorem wp_region_P {id : Nat} {a : Act} {w : World} (hm : P.follows .mixedOrders = true) (h : RegionP P ops Q a w) : (Code.region id ops true).wp P Q a w := wp_region_any hm (wpAny_of_P _ _ _ _ h)

theorem wpAny_inv {md : Region.Mode} (J : Array Bool → Act → World → Prop)
    (hsize : ∀ l a w, J l a w → l.size = ops.size)
    (hstep : ∀ l a w i, J l a w → i ∈ Region.ready md ops l → wpOpP P ops Q i (J (l.setIfInBounds i true)) a w)
    (hend : ∀ l a w, J l a w → Region.ready md ops l = [] → Q .normal a w) :
    ∀ (fuel : Nat) (l : Array Bool) (a : Act) (w : World), J l a w → unlisted l ≤ fuel → wpAnyP P md ops Q fuel l a w
  | 0, l, a, w, hJ, hf => by
    have hr : Region.ready md ops l = [] := by
      rw [List.eq_nil_iff_forall_not_mem]
      intro i hi
      unfold Region.ready at hi
      simp only [List.mem_filter, List.mem_range, Bool.and_eq_true, Bool.not_eq_true'] at hi
      have hs := hsize l a w hJ
      have hlt : i < l.size := by omega
      have h1 : l[i] = false := by
        have := hi.2.1
        rw [Array.getD_eq_getD_getElem?, Array.getElem?_eq_getElem hlt] at this
        simpa using this
      have : 0 < unlisted l := List.count_pos_iff.2 (by rw [← h1]; simp)
      omega
    exact ⟨hr, hend l a w hJ hr⟩
  | fuel + 1, l, a, w, hJ, hf => by
    refine ⟨fun hr => hend l a w hJ hr, fun i hi => ?_⟩
    have hs := hsize l a w hJ
    have hi' := hi
    unfold Region.ready at hi'
    simp only [List.mem_filter, List.mem_range, Bool.and_eq_true, Bool.not_eq_true'] at hi'
    have hlt : i < l.size := by omega
    have h1 : l[i] = false := by
      have := hi'.2.1
      rw [Array.getD_eq_getD_getElem?, Array.getElem?_eq_getElem hlt] at this
      simpa using this
    have hu := unlisted_set l i hlt h1
    exact wpOpP_mono (fun a' w' h => wpAny_inv J hsize hstep hend fuel _ a' w' h (by omega)) (hstep l a w i hJ hi)

/-- What an operation has left in its slot. -/
def valOf (o : Oper) (a : Act) : Value := match o.dst with | some d => a.tmps.getD d undef | none => undef

/-- The slots that no operation writes are as they were. -/
def Framed (ops : Array Oper) (a0 a : Act) : Prop := a.defers = a0.defers ∧ a.tmps.size = a0.tmps.size ∧ ∀ t, (∀ o ∈ ops.toList, o.dst ≠ some t) → a.tmps.getD t undef = a0.tmps.getD t undef

/-- What those ahead of an operation have left. -/
def Ahead (ops : Array Oper) (Φ : Nat → Value → World → Prop) (o : Oper) (a : Act) (w : World) : Prop :=
  ∀ e ∈ o.after.toList, Region.binds .any e = true → ∀ p, ops[e.on]? = some p → Φ e.on (valOf p a) w

/-- An operation's duty. -/
def Duty (P : Program) (ops : Array Oper) (Q : Exit → Act → World → Prop) (Φ : Nat → Value → World → Prop) (a0 : Act) (w0 : World) (i : Nat) (o : Oper) : Prop :=
  ∀ a w, Ext w0 w → Framed ops a0 a → Ahead ops Φ o a w →
    if Region.wanted o (yielded ops a.tmps) then o.wp P a w (fun a' w' => ∃ v, a' = a.put o.dst v ∧ Φ i v w' ∧ Ext w w') Q else Φ i undef w

def Duties (P : Program) (ops : Array Oper) (Q : Exit → Act → World → Prop) (Φ : Nat → Value → World → Prop) (a0 : Act) (w0 : World) : Nat → List Oper → Prop
  | _, [] => True
  | i, o :: l => Duty P ops Q Φ a0 w0 i o ∧ Duties P ops Q Φ a0 w0 (i + 1) l

theorem Duties.at {Φ : Nat → Value → World → Prop} {a0 : Act} {w0 : World} : ∀ {l : List Oper} {k : Nat}, Duties P ops Q Φ a0 w0 k l → ∀ i o, l[i]? = some o → Duty P ops Q Φ a0 w0 (k + i) o
  | [], _, _, i, o, h => by simp at h
  | p :: l, k, hd, 0, o, h => by simp at h; subst h; exact hd.1
  | p :: l, k, hd, i + 1, o, h => by
    have := Duties.at (k := k + 1) hd.2 i o (by simpa using h)
    rwa [show k + 1 + i = k + (i + 1) from by omega] at this

/-- No slot is written twice. -/
def dstsOk (ops : Array Oper) : Bool := decide ((ops.toList.filterMap (·.dst)).Nodup)

theorem dst_inj : ∀ (l : List Oper), (l.filterMap (·.dst)).Nodup → ∀ (i j : Nat) (o p : Oper) (d : Tmp), l[i]? = some o → l[j]? = some p → o.dst = some d → p.dst = some d → i = j
  | [], _, i, j, o, p, d, h, _, _, _ => by simp at h
  | x :: l, hn, i, j, o, p, d, hi, hj, ho, hp => by
    have hrest : (l.filterMap (·.dst)).Nodup := by
      cases hx : x.dst with
      | none => simpa [List.filterMap_cons, hx] using hn
      | some y => rw [List.filterMap_cons_some hx] at hn; exact (List.nodup_cons.1 hn).2
    cases i with
    | zero =>
      cases j with
      | zero => rfl
      | succ j =>
        simp at hi hj
        subst hi
        rw [List.filterMap_cons_some ho] at hn
        exact absurd (List.mem_filterMap.2 ⟨p, List.mem_of_getElem? hj, hp⟩) (List.nodup_cons.1 hn).1
    | succ i =>
      cases j with
      | zero =>
        simp at hi hj
        subst hj
        rw [List.filterMap_cons_some hp] at hn
        exact absurd (List.mem_filterMap.2 ⟨o, List.mem_of_getElem? hi, ho⟩) (List.nodup_cons.1 hn).1
      | succ j =>
        simp at hi hj
        rw [dst_inj l hrest i j o p d hi hj ho hp]

theorem valOf_put_other {o p : Oper} {a : Act} {v : Value} (h : ∀ d, p.dst = some d → o.dst ≠ some d) : valOf p (a.put o.dst v) = valOf p a := by
  unfold valOf Act.put
  cases hp : p.dst with
  | none => rfl
  | some d =>
    cases ho : o.dst with
    | none => rfl
    | some d' =>
      have hne : d' ≠ d := fun e => h d hp (by rw [ho, e])
      simp [Array.getD_eq_getD_getElem?, hne]

theorem valOf_put_same {o : Oper} {a : Act} {v : Value} (h : ∀ d, o.dst = some d → d < a.tmps.size) (hn : o.dst = none → v = undef) : valOf o (a.put o.dst v) = v := by
  unfold valOf Act.put
  cases ho : o.dst with
  | none => exact (hn ho).symm
  | some d => simp [Array.getD_eq_getD_getElem?, h d ho]

/-- Each operation waits for earlier ones alone. -/
def aheadOk (ops : Array Oper) : Bool := ops.toList.zipIdx.all fun x => x.1.after.toList.all fun e => decide (e.on < x.2)

theorem wp_region_ext {id : Nat} {a0 : Act} {w0 : World} (hm : P.follows .mixedOrders = true) (Φ : Nat → Value → World → Prop)
    (hstab : ∀ i v w w', Φ i v w → Ext w w' → Φ i v w')
    (hdst : dstsOk ops = true) (hacy : aheadOk ops = true) (hin : ∀ o ∈ ops.toList, ∀ d, o.dst = some d → d < a0.tmps.size) (hund : ∀ i o v w, ops[i]? = some o → o.dst = none → Φ i v w → Φ i undef w)
    (hd : Duties P ops Q Φ a0 w0 0 ops.toList)
    (hend : ∀ a w, Ext w0 w → Framed ops a0 a → (∀ i o, ops[i]? = some o → Φ i (valOf o a) w) → Q .normal a w) :
    (Code.region id ops true).wp P Q a0 w0 := by
  refine wp_region_P hm ?_
  have hdn : (ops.toList.filterMap (·.dst)).Nodup := by simpa [dstsOk] using hdst
  refine wpAny_inv (fun l a w => l.size = ops.size ∧ Ext w0 w ∧ Framed ops a0 a ∧ ∀ i o, ops[i]? = some o → l.getD i false = true → Φ i (valOf o a) w) (fun _ _ _ h => h.1) ?_ ?_ _ _ _ _ ?_ ?_
  · rintro l a w i ⟨hs, hE, hF, hP⟩ hi
    unfold Region.ready at hi
    simp only [List.mem_filter, List.mem_range, Bool.and_eq_true, Bool.not_eq_true'] at hi
    obtain ⟨hlt, hu, hpre⟩ := hi
    have ho : ops[i]? = some ops[i] := Array.getElem?_eq_getElem hlt
    have hol : ops.toList[i]? = some ops[i] := by simp
    have hduty := hd.at i ops[i] hol
    rw [Nat.zero_add] at hduty
    have hah : Ahead ops Φ ops[i] a w := by
      intro e he hb p hp
      refine hP e.on p hp ?_
      rw [ho] at hpre
      simp only [Option.map_some, Option.getD_some, Array.all_eq_true'] at hpre
      have := hpre e (by simpa using he)
      simpa [hb] using this
    have hgo := hduty a w hE hF hah
    have next : ∀ v w', Φ i v w' → Ext w w' → (l.setIfInBounds i true).size = ops.size ∧ Ext w0 w' ∧ Framed ops a0 (a.put ops[i].dst v) ∧ ∀ j o, ops[j]? = some o → (l.setIfInBounds i true).getD j false = true → Φ j (valOf o (a.put ops[i].dst v)) w' := by
      intro v w' hv hE'
      have hmem : ops[i] ∈ ops.toList := by simp
      refine ⟨by simpa using hs, hE.trans hE', ⟨?_, ?_, fun t ht => ?_⟩, fun j o hj hlj => ?_⟩
      · unfold Act.put; split <;> exact hF.1
      · unfold Act.put; split
        · simpa using hF.2.1
        · exact hF.2.1
      · rw [← hF.2.2 t ht]
        have := ht ops[i] hmem
        unfold Act.put
        cases hdd : ops[i].dst with
        | none => rfl
        | some d =>
          have hne : d ≠ t := fun e => this (by rw [hdd, e])
          simp [Array.getD_eq_getD_getElem?, hne]
      · by_cases e : j = i
        · subst e
          rw [ho] at hj
          obtain rfl := Option.some.inj hj
          by_cases hdd : ops[j].dst = none
          · have : valOf ops[j] (a.put ops[j].dst v) = undef := by unfold valOf; rw [hdd]
            rw [this]
            exact hund j _ v w' ho hdd hv
          · rw [valOf_put_same (fun d hd => by rw [hF.2.1]; exact hin _ hmem d hd) (fun h => absurd h hdd)]
            exact hv
        · have hl : l.getD j false = true := by
            simp only [Array.getD_eq_getD_getElem?, Array.getElem?_setIfInBounds] at hlj ⊢
            rw [if_neg (fun h => e h.symm)] at hlj
            exact hlj
          rw [valOf_put_other (fun d hd h => e (dst_inj ops.toList hdn j i o ops[i] d (by simpa using hj) hol hd h))]
          exact hstab _ _ _ _ (hP j o hj hl) hE'
    unfold wpOpP
    rw [ho]
    simp only []
    by_cases hw : Region.wanted ops[i] (yielded ops a.tmps) = true
    · rw [if_pos hw] at hgo ⊢
      refine Oper.wp_mono (fun a' w' h => ?_) hgo
      obtain ⟨v, rfl, hv, hE'⟩ := h
      exact next v w' hv hE'
    · rw [if_neg hw] at hgo ⊢
      exact next undef w hgo (Ext.refl w)
  · rintro l a w ⟨hs, hE, hF, hP⟩ hr
    have all : ∀ n i, i < n → i < ops.size → l.getD i false = true := by
      intro n
      induction n with
      | zero => intro i h; omega
      | succ n ih =>
        intro i hn hi
        cases hl : l.getD i false with
        | true => rfl
        | false =>
          exfalso
          have hmem : i ∈ Region.ready .any ops l := by
            unfold Region.ready
            simp only [List.mem_filter, List.mem_range, Bool.and_eq_true, Bool.not_eq_true']
            have ho : ops[i]? = some ops[i] := Array.getElem?_eq_getElem hi
            refine ⟨hi, ?_, ?_⟩
            · rw [Array.getD_eq_getD_getElem?, Array.getElem?_eq_getElem (by omega)] at hl ⊢
              simpa using hl
            · rw [ho]
              simp only [Option.map_some, Option.getD_some, Array.all_eq_true']
              intro e he
              have hac := List.all_eq_true.1 hacy (ops[i], i) (List.mem_zipIdx_iff_getElem?.2 (by simp))
              have := List.all_eq_true.1 hac e (by simpa using he)
              have hlt : e.on < i := by simpa using this
              rw [ih e.on (by omega) (by omega)]
              simp
          rw [hr] at hmem
          cases hmem
    refine hend a w hE hF (fun i o ho => hP i o ho ?_)
    exact all (i + 1) i (by omega) (Array.getElem?_eq_some_iff.1 ho).1
  · exact ⟨by simp, Ext.drew w0, ⟨rfl, rfl, fun _ _ => rfl⟩, fun i o _ h => by simp [Array.getD_eq_getD_getElem?, Array.getElem?_replicate] at h; split at h <;> simp at h⟩
  · unfold unlisted
    exact Nat.le_trans (List.count_le_length) (by simp)
end Go.Proofs.YtfgjbcejpjcpeaaDoor
