/- A range over a tree's nodes: the loop variable in a box of its own. A region that draws its order, whose last operation, a store, comes after all others. A region that draws its order, with one operation that turns memory (an append) ahead of all that follow it in the text. A region that draws its order, its operations turning memory: an invariant that knows which of them are done. A region that draws its order and turns memory: operations without a slot (a store) among them. The walk of Count. The walk of the law's own small tree. What the rounds of TreeWalks keep. Small laws on memory: a store into the middle of a row; what changes but for a set of blocks; an append to a row of the call's own, in a region that draws. The walk of (*Tree).Stat. The step of a range over a map keyed by strings: the name is told to be among those that were left. What is under a path: itself and what is under its children. The list that grows while its places are gone through: in the end it holds what is under the first. The list under a path, sorted. The walk of paths.Join. Joining a node's path and a child's last part gives the child's path. The walk of (*Tree).under. The walks of the references' own texts up to Valid: whether a text is a path, as the document has it. The walks of the reference of paths up to Valid. The walk of arborref03.Order. Rows that show nodes: what they hold, their first places and those behind them, rows of the call's own; a slice of a slice. The document's tree in memory; where a path stands in it (arborref07's Find). -/
import Derived.Test.YthinpbdbhijbgaaGreatDoorJDigestFinds6
import Derived.Test.YthinpbdbhijbgaaGreatDoorJDigestFinds5
import Derived.Deep.RegionLaw
import Derived.Test.YthinpbdbhijbgaaGreatDoorJDigestFinds2
import Derived.Maps.RangeWalk
import Derived.Test.YthinpbdbhijbgaaGreatDoorJDigestFinds4
import Derived.Lib.IndexLaws
import Derived.Sort.OwnSorted
import Derived.Great.BuildSlice
import Derived.Test.YthinpbdbhijbgaaGreatDoorJDigestFinds1
import Derived.BigQuiet
namespace Go.Proofs.YthinpbdbhijbgaaGreatDoor
open Go.RowKit Go.Sort
set_option maxHeartbeats 2000000
set_option maxRecDepth 100000

theorem ex_alloc_nd {o : Oper} {a : Act} {w : World} (ho : o.op = .alloc 44) : (execOp a.eval o).run Tryz.prog w = .ok (.value (.pointer (some ⟨w.heap.size, 0, none⟩))) (w.alloc (.cells zeroNd 44)) := by
  have hz : (zeroValue 44).run Tryz.prog w = .ok (.agg zeroNd) w := by kernel_rfl
  simp [execOp, ho, hz, newVar, newRow, go_sem]

theorem put_frame (T : Array Value) (p b : Tmp) (u v : Value) : ({ tmps := T.setIfInBounds p u, defers := [] } : Act).put (some b) v = { tmps := (T.setIfInBounds p u).setIfInBounds b v, defers := [] } := rfl
theorem eval_set_same {T : Array Value} {b : Tmp} {v : Value} (h : b < T.size) : ({ tmps := T.setIfInBounds b v, defers := [] } : Act).eval (.tmp b) = v := by
  simp [Act.eval, h]
theorem eval_set_other {T : Array Value} {b p : Tmp} {u v : Value} (h : p < T.size) (hne : b ≠ p) : ({ tmps := (T.setIfInBounds p u).setIfInBounds b v, defers := [] } : Act).eval (.tmp p) = u := by
  simp [Act.eval, Array.getElem?_setIfInBounds, h, hne]

/-- What the loop's own assignment leaves. -/
def AggA (T : Array Value) (p b : Tmp) (x : Value × Nd) (a' : Act) (W : World) : Prop :=
  ∃ bl da dc aa ac, x.1 = .agg (ndC x.2 (.slice da x.2.data.length dc) (.slice aa x.2.acl.length ac)) ∧ W.heap[bl]? = some (.cells (ndC x.2 (.slice da x.2.data.length dc) (.slice aa x.2.acl.length ac)) 44 (0, 0)) ∧
    a' = { tmps := (T.setIfInBounds p x.1).setIfInBounds b (.pointer (some ⟨bl, 0, none⟩)), defers := [] }

theorem wpIn_tells_nd {n : Nat} {Q : Exit → Act → World → Prop} {a : Act} {w : World} {g : Operand} {body : Code} {gf : Nat} {lb : Array Value} {Safe : World → Nat → Prop} {S Sp : List (Value × Nd) → Prop} {id : Nat} {p b : Tmp} {pos : String} {aft : Array Edge}
    (h1 : 1 ≤ n) (hg : a.eval g = .func (.func gf) #[] lb) (eg : ∀ args w, (callFunc gf args).run Tryz.prog w = .ok (.enter gf args) w)
    (hseq : Tells Fence.wide (n - 1) Tryz.prog gf lb (fun x : Value × Nd => #[x.1]) (GS Safe) (KeepS Safe) Safe S Sp w)
    (hp : p < a.tmps.size) (hb : b < a.tmps.size) (hne : b ≠ p)
    (I : List (Value × Nd) → World → Prop) (Ix : Code → List (Value × Nd) → World → Prop)
    (hSafe : ∀ X Y k, Turn w.heap.size X Y → Safe X k → Safe Y k)
    (hI : ∀ pre X Y, I pre X → Turn w.heap.size X Y → I pre Y ∧ ∀ k, X.heap.size ≤ k → Safe Y k)
    (hIx : ∀ c pre X Y, Ix c pre X → Turn w.heap.size X Y → Ix c pre Y)
    (h0 : I [] w)
    (hbody : ∀ (l : Nat) (pre : List (Value × Nd)) (m : Nd) (da : Option Addr) (dc : Nat) (aa : Option Addr) (ac bl : Nat) (W : World), w.heap.size ≤ l → (∃ r, W.heap[l]? = some (.loop r)) →
      Sp (pre ++ [(.agg (ndC m (.slice da m.data.length dc) (.slice aa m.acl.length ac)), m)]) → I pre W → GS Safe (.agg (ndC m (.slice da m.data.length dc) (.slice aa m.acl.length ac)), m) W →
      W.heap[bl]? = some (.cells (ndC m (.slice da m.data.length dc) (.slice aa m.acl.length ac)) 44 (0, 0)) →
      body.wpIn (Fence.wide.inRound l) (n - 1 - 1) Tryz.prog (tellPost w.heap.size (KeepS Safe) I Ix (pre ++ [(.agg (ndC m (.slice da m.data.length dc) (.slice aa m.acl.length ac)), m)]) W)
        { tmps := (a.tmps.setIfInBounds p (.agg (ndC m (.slice da m.data.length dc) (.slice aa m.acl.length ac)))).setIfInBounds b (.pointer (some ⟨bl, 0, none⟩)), defers := [] } W)
    (hdone : ∀ (D : Nat) (xs : List (Value × Nd)) (W : World), w.heap.size ≤ D → S xs → I xs W → W.heap[D]? = some (.deferred (some [])) → Q .normal { a with defers := { target := .collected D, args := #[] } :: a.defers } W)
    (hstop : ∀ (D : Nat) (c : Code) (pre : List (Value × Nd)) (W : World), w.heap.size ≤ D → Sp pre → Ix c pre W → W.heap[D]? = some (.deferred (some [])) → c.wpIn Fence.wide n Tryz.prog Q { a with defers := { target := .collected D, args := #[] } :: a.defers } W) :
    (Code.rangeFunc g #[p] (Code.region id #[{ dst := some b, op := Op.alloc 44, type := 0, pos := pos, after := #[], guard := none }, { dst := none, op := Op.store 44 (Operand.tmp b) (Operand.tmp p), type := 0, pos := pos, after := aft, guard := none }] false) body).wpIn Fence.wide n Tryz.prog Q a w := by
  refine wpIn_tells rfl h1 hg trivial eg hseq (fun _ => rfl) I Ix (AggA a.tmps p b) ?hKeep ?hI hIx ?hG ?hAx h0 ?assign ?body hdone hstop
  case hKeep =>
    intro A X Y Z h hk h2
    exact ⟨Nat.le_trans h.size (Nat.le_trans hk.1 h2.size), fun k c e f hc hs => by
      obtain ⟨h3, h4⟩ := hk.2 k c e f (h.cells hc) (hSafe _ _ _ h hs)
      exact ⟨h2.cells h3, hSafe _ _ _ h2 h4⟩⟩
  case hI => exact fun pre X Y h hT => ⟨(hI pre X Y h hT).1, fun k hk => hSafe _ _ _ hT hk, (hI pre X Y h hT).2⟩
  case hG => exact fun x X Y h hT => NdS.imp h (fun k hk => ⟨hSafe _ _ _ hT hk.1, Nat.lt_of_lt_of_le hk.2 hT.size⟩) fun _ _ _ _ hu => hT.cell hu
  case hAx =>
    rintro x a' X Y ⟨bl, da, dc, aa, ac, e1, e2, e3⟩ hT
    exact ⟨bl, da, dc, aa, ac, e1, hT.cells e2, e3⟩
  case assign =>
    rintro l pre ⟨xv, m⟩ W K hIp hG hK
    obtain ⟨da, dc, aa, ac, e, _⟩ := hG
    dsimp only at e
    subst e
    have hfr : ∀ v : Value, (#[p].zip #[v]).foldl (fun (t : Array Value) (x : Tmp × Value) => match x with | (p, v) => t.setIfInBounds p v) a.tmps = a.tmps.setIfInBounds p v := fun v => by simp
    refine wpIn_region_list ?_
    rw [hfr]
    show wpListIn _ _ _ _ _ [_, _] { tmps := a.tmps.setIfInBounds p (.agg (ndC m (.slice da m.data.length dc) (.slice aa m.acl.length ac))), defers := [] } W
    refine wpListIn_value (fun _ => trivial) rfl (fun c h => by cases h) (ex_alloc_nd rfl) ?_
    rw [put_frame]
    refine wpListIn_skipped (fun _ => trivial) rfl (fun c h => by cases h) (ex_store_row 44 (.tmp b) (.tmp p) rfl W.heap.size (ndC m (.slice da m.data.length dc) (.slice aa m.acl.length ac)) (eval_set_same (by simpa using hb)) (eval_set_other hp hne) 44 zeroNd (heap_alloc_new W _) sizeNd rfl (cells_node m da aa _ _ dc ac)) ?_
    rw [setRow_alloc]
    refine wpListIn_nil ?_
    refine hK _ _ (Ext.alloc _ _) ⟨W.heap.size, da, dc, aa, ac, rfl, heap_alloc_new W _, rfl⟩
  case body =>
    rintro l pre ⟨xv, m⟩ a' W hl hr hSp hIp hG ⟨bl, da, dc, aa, ac, e1, e2, rfl⟩
    dsimp only at e1
    subst e1
    exact hbody l pre m da dc aa ac bl W hl hr hSp hIp hG e2

section
variable {P : Program} {ops : Array Oper} {Q : Exit → Act → World → Prop} {Φ : Nat → Value → World → Prop} {a0 : Act} {w0 : World}
theorem duties_rel : ∀ (l : List Oper) (k : Nat), Duties P ops Q Φ a0 w0 k l → DutiesR Ext P ops Q Φ a0 w0 k l
  | [], _, _ => trivial
  | _ :: l, k, h => ⟨h.1, duties_rel l (k + 1) h.2⟩
theorem Ahead.val {vals : List Value} {o p : Oper} {a : Act} {w : World} (h : Ahead ops (fun i v _ => vals[i]? = some v) o a w) (j : Nat) (d : Tmp) (hp : ops[j]? = some p) (hd : p.dst = some d) (he : ∃ e ∈ o.after.toList, e.on = j ∧ Region.binds .any e = true) {v : Value} (hv : vals[j]? = some v) : a.eval (.tmp d) = v :=
  Option.some.inj ((h.slot j d hp hd he).symm.trans hv)
/-- A region that draws its order, each of whose operations has one value to give. -/
theorem region_vals (m : Nat) (vals : List Value) (hlen : vals.length = ops.toList.length) (hchk : (dstsOk ops && aheadB ops && (ops.toList.all fun o => o.dst.any fun d => decide (d < m))) = true) (hsz : a0.tmps.size = m)
    (hd : Duties P ops Q (fun i v _ => vals[i]? = some v) a0 w0 0 ops.toList)
    (hend : ∀ w, Ext w0 w → Q .normal (filled ops.toList vals a0) w) : RegionP P ops Q a0 w0 := by
  have hall := hchk
  simp only [Bool.and_eq_true] at hall
  refine region_rel_e m Ext Ext.refl (fun _ _ _ => Ext.trans) Ext.drew (fun i v _ => vals[i]? = some v) (fun _ _ _ _ h _ => h) (fun i v w h ho => ?_) ?_ hsz (duties_rel _ _ hd) fun us w hE hl hP => ?_
  · exfalso
    cases hoi : ops[i]? with
    | none => rw [hoi] at ho; cases ho
    | some o =>
      rw [hoi] at ho
      have := List.all_eq_true.1 hall.2 o (List.mem_of_getElem? (i := i) (by simpa using hoi))
      cases hd : o.dst with
      | none => rw [hd] at this; cases this
      | some d => simp [hd] at ho
  · simp only [Bool.and_eq_true]
    refine ⟨hall.1, List.all_eq_true.2 fun o ho => ?_⟩
    have := List.all_eq_true.1 hall.2 o ho
    cases hd : o.dst with
    | none => rfl
    | some d => rw [hd] at this; simpa using this
  · have : us = vals := List.ext_getElem? fun i => by
      by_cases hi : i < us.length
      · rw [hP i us[i] (List.getElem?_eq_getElem hi), List.getElem?_eq_getElem hi]
      · rw [List.getElem?_eq_none (by omega), List.getElem?_eq_none (by omega)]
    rw [this]
    exact hend w hE
end
end Go.Proofs.YthinpbdbhijbgaaGreatDoor
namespace Go.Proofs.YthinpbdbhijbgaaGreatDoor
open Go.RowKit
section
variable {P : Program} {ops : Array Oper} {Q : Exit → Act → World → Prop} {a0 : Act} {w0 : World}
theorem region_store_vals (m : Nat) (vals : List Value) (k : Nat) (ol : Oper) (hk : ops[k]? = some ol) (hks : ops.size = k + 1) (hlen : vals.length = k) (hg : ol.guard = none) (hdn : ol.dst = none)
    (hchk : (dstsOk ops && aheadB ops && coverOk ops && ((ops.toList.take (ops.size - 1)).all fun o => o.dst.any fun d => decide (d < m))) = true) (hsz : a0.tmps.size = m)
    (hd : Duties P ops Q (fun i v _ => vals[i]? = some v) a0 w0 0 (ops.toList.take k))
    (hlast : ∀ w, Ext w0 w → ol.wp P (filled (ops.toList.take k) vals a0) w (fun a' w' => Q .normal a' w') Q) : RegionP P ops Q a0 w0 := by
  refine region_last_e m (fun i v _ => vals[i]? = some v) (fun _ _ _ _ h _ => h) hchk hsz k ol hk hks hg hdn hd fun us w hE hl hP => ?_
  have : us = vals := List.ext_getElem? fun i => by
    have hl' : us.length = k := by rw [hl, List.length_take]; simp [hks]
    by_cases hi : i < us.length
    · rw [hP i us[i] (List.getElem?_eq_getElem hi), List.getElem?_eq_getElem hi]
    · rw [List.getElem?_eq_none (by omega), List.getElem?_eq_none (by omega)]
  rw [this]
  exact hlast w hE
end
end Go.Proofs.YthinpbdbhijbgaaGreatDoor
namespace Go.Proofs.YthinpbdbhijbgaaGreatDoor
open Go.RowKit
section
variable {P : Program} {ops : Array Oper} {Q : Exit → Act → World → Prop} {a0 : Act} {w0 : World}

/-- Does i wait for j? -/
def reachB (ops : Array Oper) : Nat → Nat → Nat → Bool
  | 0, i, j => i == j
  | f + 1, i, j => i == j || (ops[i]?.any fun o => o.after.toList.any fun e => Region.binds .any e && reachB ops f e.on j)
def Closed (ops : Array Oper) (l : Array Bool) : Prop := ∀ (i : Nat) o, ops[i]? = some o → l.getD i false = true → ∀ e ∈ o.after.toList, Region.binds .any e = true → l.getD e.on false = true
theorem Closed.reach {l : Array Bool} (h : Closed ops l) : ∀ (f i j : Nat), reachB ops f i j = true → l.getD i false = true → l.getD j false = true
  | 0, i, j, hr, hi => by simp [reachB] at hr; rw [← hr]; exact hi
  | f + 1, i, j, hr, hi => by
    simp only [reachB, Bool.or_eq_true, beq_iff_eq] at hr
    rcases hr with rfl | hr
    · exact hi
    · obtain ⟨o, ho, he⟩ := (Option.any_eq_true _ _).1 hr
      obtain ⟨e, hem, h2⟩ := List.any_eq_true.1 he
      simp only [Bool.and_eq_true] at h2
      exact h.reach f e.on j h2.2 (h i o ho hi e hem h2.1)

/-- An operation's duty: p is the one that turns memory; b: has it been? -/
def DutyP (P : Program) (ops : Array Oper) (Q : Exit → Act → World → Prop) (p : Nat) (G : Bool → World → Prop) (Φ : Nat → Value → World → Prop) (a0 : Act) (i : Nat) (o : Oper) : Prop :=
  ∀ b a w, (reachB ops ops.size p i = true → b = false) → (p < i → b = true) → G b w → Framed ops a0 a → Ahead ops Φ o a w →
    o.wp P a w (fun a' w' => ∃ v, a' = a.put o.dst v ∧ Φ i v w' ∧ (∀ j u, j ≠ i → (i = p → j < p) → Φ j u w → Φ j u w') ∧ G (b || i == p) w') Q
def DutiesP (P : Program) (ops : Array Oper) (Q : Exit → Act → World → Prop) (p : Nat) (G : Bool → World → Prop) (Φ : Nat → Value → World → Prop) (a0 : Act) : Nat → List Oper → Prop
  | _, [] => True
  | i, o :: l => DutyP P ops Q p G Φ a0 i o ∧ DutiesP P ops Q p G Φ a0 (i + 1) l
theorem DutiesP.at {p : Nat} {G : Bool → World → Prop} {Φ : Nat → Value → World → Prop} : ∀ {l : List Oper} {k : Nat}, DutiesP P ops Q p G Φ a0 k l → ∀ i o, l[i]? = some o → DutyP P ops Q p G Φ a0 (k + i) o
  | [], _, _, i, o, h => by simp at h
  | q :: l, k, hd, 0, o, h => by simp at h; subst h; exact hd.1
  | q :: l, k, hd, i + 1, o, h => by
    have := DutiesP.at (k := k + 1) hd.2 i o (by simpa using h)
    rwa [show k + 1 + i = k + (i + 1) from by omega] at this

end
end Go.Proofs.YthinpbdbhijbgaaGreatDoor
namespace Go.Proofs.YthinpbdbhijbgaaGreatDoor
open Go.RowKit
section
variable {P : Program} {ops : Array Oper} {Q : Exit → Act → World → Prop} {a0 : Act} {w0 : World}

/-- An operation's duty; l: which are done. Φ speaks of values alone. -/
def DutyS (P : Program) (ops : Array Oper) (Q : Exit → Act → World → Prop) (G : (Nat → Bool) → World → Prop) (Φ : Nat → Value → Prop) (a0 : Act) (i : Nat) (o : Oper) : Prop :=
  ∀ (d : Nat → Bool) a w, d i = false → (∀ f k j, reachB ops f k j = true → d k = true → d j = true) → (∀ e ∈ o.after.toList, Region.binds .any e = true → d e.on = true) → G d w → Framed ops a0 a → Ahead ops (fun i v _ => Φ i v) o a w →
    o.wp P a w (fun a' w' => ∃ v, a' = a.put o.dst v ∧ Φ i v ∧ G (fun k => d k || k == i) w') Q
def DutiesS (P : Program) (ops : Array Oper) (Q : Exit → Act → World → Prop) (G : (Nat → Bool) → World → Prop) (Φ : Nat → Value → Prop) (a0 : Act) : Nat → List Oper → Prop
  | _, [] => True
  | i, o :: l => DutyS P ops Q G Φ a0 i o ∧ DutiesS P ops Q G Φ a0 (i + 1) l
theorem DutiesS.at {G : (Nat → Bool) → World → Prop} {Φ : Nat → Value → Prop} : ∀ {l : List Oper} {k : Nat}, DutiesS P ops Q G Φ a0 k l → ∀ i o, l[i]? = some o → DutyS P ops Q G Φ a0 (k + i) o
  | [], _, _, i, o, h => by simp at h
  | q :: l, k, hd, 0, o, h => by simp at h; subst h; exact hd.1
  | q :: l, k, hd, i + 1, o, h => by
    have := DutiesS.at (k := k + 1) hd.2 i o (by simpa using h)
    rwa [show k + 1 + i = k + (i + 1) from by omega] at this

theorem region_state (m : Nat) (G : (Nat → Bool) → World → Prop) (hG0 : G (fun _ => false) w0.drew) (Φ : Nat → Value → Prop)
    (hchk : (dstsOk ops && aheadB ops && (ops.toList.all fun o => o.guard.isNone && o.dst.any fun d => decide (d < m))) = true) (hsz : a0.tmps.size = m)
    (hd : DutiesS P ops Q G Φ a0 0 ops.toList)
    (hend : ∀ us d w, (∀ i, i < ops.size → d i = true) → G d w → us.length = ops.toList.length → (∀ i u, us[i]? = some u → Φ i u) → Q .normal (filled ops.toList us a0) w) :
    RegionP P ops Q a0 w0 := by
  simp only [Bool.and_eq_true] at hchk
  obtain ⟨⟨hdst, hacy⟩, hall⟩ := hchk
  have hdd : ∀ o ∈ ops.toList, ∃ d, o.dst = some d ∧ d < a0.tmps.size := fun o ho => by
    have := List.all_eq_true.1 hall o ho
    simp only [Bool.and_eq_true] at this
    have h2 := this.2
    cases hq : o.dst with
    | none => rw [hq] at h2; cases h2
    | some d => rw [hq] at h2; exact ⟨d, rfl, by rw [hsz]; simpa using h2⟩
  have hin : ∀ o ∈ ops.toList, ∀ d, o.dst = some d → d < a0.tmps.size := fun o ho d hd => by
    obtain ⟨d', h1, h2⟩ := hdd o ho
    rw [hd] at h1
    rw [Option.some.inj h1]; exact h2
  have hng : ∀ o ∈ ops.toList, o.guard = none := fun o ho => by
    have := List.all_eq_true.1 hall o ho
    simp only [Bool.and_eq_true] at this
    simpa using this.1
  have hdn : (ops.toList.filterMap (·.dst)).Nodup := by simpa [dstsOk] using hdst
  unfold RegionP
  refine wpAny_inv (fun l a w => l.size = ops.size ∧ G (fun k => l.getD k false) w ∧ Framed ops a0 a ∧ (∀ i o, ops[i]? = some o → l.getD i false = true → Φ i (valOf o a)) ∧ Closed ops l) (fun _ _ _ h => h.1) ?_ ?_ _ _ _ _ ?_ ?_
  · rintro l a w i ⟨hs, hE, hF, hP, hC⟩ hi
    obtain ⟨hlt, hu, hpre⟩ := (ready_iff hs).1 hi
    have ho : ops[i]? = some ops[i] := Array.getElem?_eq_getElem hlt
    have hol : ops.toList[i]? = some ops[i] := by simp
    have hmem : ops[i] ∈ ops.toList := by simp
    have hduty := hd.at i ops[i] hol
    rw [Nat.zero_add] at hduty
    have hgo := hduty (fun k => l.getD k false) a w hu (fun f k j h hk => hC.reach f k j h hk) (fun e he hb => hpre e he hb) hE hF (fun e he hb q hq => hP e.on q hq (hpre e he hb))
    unfold wpOpP
    rw [ho]
    simp only []
    rw [if_pos (by unfold Region.wanted; rw [hng _ hmem])]
    refine Oper.wp_mono (fun a' w' h => ?_) hgo
    obtain ⟨v, rfl, hv, hG'⟩ := h
    have hgp : (fun k => (l.setIfInBounds i true).getD k false) = fun k => l.getD k false || k == i := by
      funext k
      by_cases e : k = i
      · subst e
        rw [getD_set_same (by omega)]; simp
      · rw [getD_set_other e]
        have : (k == i) = false := by simpa using e
        rw [this, Bool.or_false]
    refine ⟨by simpa using hs, by rw [hgp]; exact hG', framed_put hF hmem v, fun j o hj hlj => ?_, fun j o hj hlj e he hb => ?_⟩
    · by_cases e : j = i
      · subst e
        rw [ho] at hj
        obtain rfl := Option.some.inj hj
        obtain ⟨d, hd1, _⟩ := hdd _ hmem
        rw [valOf_put_same (fun d hd => by rw [hF.2.1]; exact hin _ hmem d hd) (fun h => by rw [hd1] at h; cases h)]
        exact hv
      · rw [getD_set_other e] at hlj
        rw [valOf_put_other (fun d hd h => e (dst_inj ops.toList hdn j i o ops[i] d (by simpa using hj) hol hd h))]
        exact hP j o hj hlj
    · by_cases hei : e.on = i
      · rw [hei]; exact getD_set_same (by omega)
      · rw [getD_set_other hei]
        by_cases hji : j = i
        · subst hji
          rw [ho] at hj
          obtain rfl := Option.some.inj hj
          exact hpre e he hb
        · rw [getD_set_other hji] at hlj
          exact hC j o hj hlj e he hb
  · rintro l a w ⟨hs, hE, hF, hP, _⟩ hr
    have hdone : ∀ i, i < ops.size → l.getD i false = true := fun i hi => ready_none hs hacy hr (i + 1) i (by omega) hi
    rw [framed_filled hF ops.toList (fun _ h => h) (fun _ h => .inl h) hin]
    refine hend _ _ w hdone hE (by simp) fun i u hu => ?_
    rw [List.getElem?_map, Option.map_eq_some_iff] at hu
    obtain ⟨o, ho, rfl⟩ := hu
    exact hP i o (by simpa using ho) (hdone i (Array.getElem?_eq_some_iff.1 (show ops[i]? = some o by simpa using ho)).1)
  · have hf : ∀ i, (Array.replicate ops.size false).getD i false = false := fun i => by
      rw [Array.getD_eq_getD_getElem?, Array.getElem?_replicate]; split <;> rfl
    refine ⟨by simp, by simp only [hf]; exact hG0, ⟨rfl, rfl, fun _ _ => rfl⟩, ?_, ?_⟩
    · intro i o _ h
      rw [hf] at h; cases h
    · intro i o _ h
      rw [hf] at h; cases h
  · unfold unlisted
    exact Nat.le_trans (List.count_le_length) (by simp)

theorem region_state_vals (m : Nat) (G : (Nat → Bool) → World → Prop) (hG0 : G (fun _ => false) w0.drew) (vals : List Value) (hlen : vals.length = ops.toList.length)
    (hchk : (dstsOk ops && aheadB ops && (ops.toList.all fun o => o.guard.isNone && o.dst.any fun d => decide (d < m))) = true) (hsz : a0.tmps.size = m)
    (hd : DutiesS P ops Q G (fun i v => vals[i]? = some v) a0 0 ops.toList)
    (hend : ∀ d w, (∀ i, i < ops.size → d i = true) → G d w → Q .normal (filled ops.toList vals a0) w) : RegionP P ops Q a0 w0 := by
  refine region_state m G hG0 (fun i v => vals[i]? = some v) hchk hsz hd fun us d w hdn hG hl hP => ?_
  have : us = vals := List.ext_getElem? fun i => by
    by_cases hi : i < us.length
    · rw [hP i us[i] (List.getElem?_eq_getElem hi), List.getElem?_eq_getElem hi]
    · rw [List.getElem?_eq_none (by omega), List.getElem?_eq_none (by omega)]
  rw [this]
  exact hend d w hdn hG

/-- An operation that only reads. -/
theorem dutyS_ext {i : Nat} {o : Oper} {G : (Nat → Bool) → World → Prop} {Φ : Nat → Value → Prop} (hG : ∀ d d' w w', G d w → Ext w w' → (∀ k, k ≠ i → d' k = d k) → G d' w')
    (h : ∀ d a w, G d w → Framed ops a0 a → Ahead ops (fun i v _ => Φ i v) o a w → o.wp P a w (fun a' w' => ∃ v, a' = a.put o.dst v ∧ Φ i v ∧ Ext w w') Q) : DutyS P ops Q G Φ a0 i o := by
  intro d a w _ _ _ hGw hF hA
  refine Oper.wp_mono (fun a' w' hh => ?_) (h d a w hGw hF hA)
  obtain ⟨v, rfl, hv, hE⟩ := hh
  exact ⟨v, rfl, hv, hG d _ _ _ hGw hE fun k hk => by
    have : (k == i) = false := by simpa using hk
    rw [this, Bool.or_false]⟩
end
end Go.Proofs.YthinpbdbhijbgaaGreatDoor
namespace Go.Proofs.YthinpbdbhijbgaaGreatDoor
open Go.RowKit
section
variable {P : Program} {ops : Array Oper} {Q : Exit → Act → World → Prop} {a0 : Act} {w0 : World}

end
end Go.Proofs.YthinpbdbhijbgaaGreatDoor
namespace Go.Proofs.YthinpbdbhijbgaaGreatDoor
open Go.RowKit
set_option maxHeartbeats 2000000
set_option maxRecDepth 100000

end Go.Proofs.YthinpbdbhijbgaaGreatDoor
namespace Go.Proofs.YthinpbdbhijbgaaGreatDoor
open Go.RowKit Go.Sort
set_option maxHeartbeats 2000000
set_option maxRecDepth 100000

/-- A tree of the walk's own blocks. -/
def Own (B : Nat) (w : World) (bt : Nat) (M : List (Key × Nd)) (N : Nat) : Prop := TreeAt (fun k => B ≤ k ∧ k < w.heap.size) w bt M N
theorem Own.ext {B : Nat} {w w' : World} {bt : Nat} {M : List (Key × Nd)} {N : Nat} (h : Own B w bt M N) (he : Ext w w') : Own B w' bt M N :=
  (TreeAt.ext h he).keep (fun _ _ => rfl) (fun _ hk => ⟨hk.1, Nat.lt_of_lt_of_le hk.2 he.size⟩) (fun _ hk => hk.2) (Nat.le_refl _)

end Go.Proofs.YthinpbdbhijbgaaGreatDoor
namespace Go.Proofs.YthinpbdbhijbgaaGreatDoor
open Go.RowKit Go.Sort
set_option maxHeartbeats 4000000
set_option maxRecDepth 100000
attribute [local go_sem] Oper.semAt_some

theorem nodesOf_vals {M : List (Key × Nd)} (h : MSorted M) : nodesOf M (M.map (·.1)) = M.map (·.2) := by
  unfold nodesOf
  rw [List.map_map]
  refine List.map_congr_left fun x hx => ?_
  show (mget M x.1).getD zeroN = x.2
  rw [mget_of_mem h (show (x.1, x.2) ∈ M from hx)]
  rfl

theorem NdsAt.ext {w w' : World} {a : Option Addr} {L : List Nd} (h : NdsAt w.heap.size w a L) (hb : Ext w w') : NdsAt w'.heap.size w' a L := fun i n hi => by
  obtain ⟨b, off, v, h1, h2, h3, h4⟩ := h i n hi
  exact ⟨b, off, v, h1, Nat.lt_of_lt_of_le h2 hb.size, (h3.below hb).mono hb.size, fun j u hj => (hb.cell (p := ⟨b, off + i * 17 + j, none⟩) h2).trans (h4 j u hj)⟩

theorem wp_skipped {P : Program} {Q : Exit → Act → World → Prop} {o : Oper} {a : Act} {w w' : World} {K : Act → World → Prop} (h : (execOp a.eval o).run P w = .ok .skip w') (hk : K (a.put o.dst undef) w') : o.wp P a w K Q := by
  unfold Oper.wp
  rw [h]
  exact hk
/-- The first loop's rounds. -/
structure WalkC (S : Nat → Prop) (bt ga N : Nat) (M : List (Key × Nd)) (w W7 : World) (m at' : Nat) (W : World) : Prop where
  one : 1 ≤ m
  le : m ≤ M.length
  tree : TreeAt S W bt (M.take m) N
  box : W.heap[ga]? = some (.cells #[.int .i64 at'] 3 (0, 0))
  cells : ∀ k c e f, W7.heap[k]? = some (.cells c e f) → k ≠ ga → W.heap[k]? = some (.cells c e f)
  size : W7.heap.size ≤ W.heap.size
  keep : Below w.heap.size w W
theorem WalkC.turn {S : Nat → Prop} {bt ga N : Nat} {M : List (Key × Nd)} {w W7 : World} {m p : Nat} {X Y : World} (h : WalkC S bt ga N M w W7 m p X) (hT : Turn W7.heap.size X Y) (hS : ∀ k, S k → k < W7.heap.size) (hw : w.heap.size ≤ W7.heap.size) : WalkC S bt ga N M w W7 m p Y :=
  ⟨h.one, h.le, h.tree.keep (fun k hk => by
      have hlt := h.tree.bound k hk
      rw [hT.same k _ (Array.getElem?_eq_getElem hlt) (.inl (hS k hk)), Array.getElem?_eq_getElem hlt]) (fun _ h => h) (fun k hk => Nat.lt_of_lt_of_le (h.tree.bound k hk) hT.size) (Nat.le_refl _),
    hT.cells h.box, fun k c e f hk hn => hT.cells (h.cells k c e f hk hn), Nat.le_trans h.size hT.size, h.keep.trans (hT.below hw h.keep.size)⟩

theorem ex_load_at {P : Program} {o : Oper} {a : Act} {w : World} {ty : TypeId} {x : Operand} (ho : o.op = .load ty x) (p : Addr) (hx : a.eval x = .pointer (some p)) (cs : Array Value) (hc : ∀ j u, cs[j]? = some u → w.cell? (p.add j) = some u) {d : TypeDesc}
    (hu : P.underlying ty = some d) (hd : oneD d = false) (hi : (P.info? ty).map (·.size) = some cs.size) : (execOp a.eval o).run P w = .ok (.value (.agg cs)) w := by
  unfold execOp
  simp only [ho, hx, Instr.loadAt, Instr.sureAddr, Sem.run_bind, Sem.run_pure, Result.andThen_ok, run_loadVar_at w p ty cs d hc hu hd hi]

theorem nds_parts {S : Nat → Prop} {w : World} {n : Nd} {da aa : Option Addr} {dc ac : Nat} (h : NdS S w (.agg (ndC n (.slice da n.data.length dc) (.slice aa n.acl.length ac))) n) : CellsS S w da (n.data.map u8v) ∧ CellsS S w aa (acCs n.acl) := by
  obtain ⟨da', dc', aa', ac', e4, h4, h5⟩ := h
  simp only [Value.agg.injEq] at e4
  have q1 := congrArg (·[1]?) e4
  have q2 := congrArg (·[2]?) e4
  simp [ndC] at q1 q2
  rw [q1.1, q2.1]
  exact ⟨h4, h5⟩

/-- What a round's steps keep. -/
structure Kp (B ga : Nat) (W W' : World) : Prop where
  recs : KeepsRec B W W'
  cells : KeepS (fun _ k => k ≠ ga) W W'
theorem Kp.trans {B ga : Nat} {X Y Z : World} (h : Kp B ga X Y) (k : Kp B ga Y Z) : Kp B ga X Z :=
  ⟨h.recs.trans k.recs, Nat.le_trans h.cells.1 k.cells.1, fun i c e f hi hs => k.cells.2 i c e f (h.cells.2 i c e f hi hs).1 hs⟩
theorem Kp.ext {B ga : Nat} {W W' : World} (h : Ext W W') : Kp B ga W W' :=
  ⟨KeepsRec.of_ext h, h.size, fun _ _ _ _ hk hs => ⟨(h.block _ (Array.getElem?_eq_some_iff.1 hk).1).trans hk, hs⟩⟩
theorem Kp.set {B ga : Nat} (W : World) (cs : Array Value) (h : ga < B) : Kp B ga W (W.setRow ga cs) :=
  ⟨⟨by simp, fun k o hB hk _ => (setRow_other _ _ _ _ (by omega)).trans hk⟩, by simp, fun k c e f hk hs => ⟨(setRow_other _ _ _ _ hs).trans hk, hs⟩⟩
theorem WalkC.ext {S : Nat → Prop} {bt ga N : Nat} {M : List (Key × Nd)} {w W7 : World} {m p : Nat} {X Y : World} (h : WalkC S bt ga N M w W7 m p X) (hE : Ext X Y) (hS : ∀ k, S k → k < W7.heap.size) (hw : w.heap.size ≤ W7.heap.size) : WalkC S bt ga N M w W7 m p Y :=
  h.turn (Turn.of_ext hE) hS hw
theorem WalkC.cell {S : Nat → Prop} {bt ga N : Nat} {M : List (Key × Nd)} {w W7 : World} {m p : Nat} {X : World} (h : WalkC S bt ga N M w W7 m p X) {b o : Nat} {u : Value} (hu : W7.cell? ⟨b, o, none⟩ = some u) (hb : b ≠ ga) : X.cell? ⟨b, o, none⟩ = some u := by
  obtain ⟨c', e', f', hk'⟩ := cell_cells hu
  rw [World.cell?_of_block ((h.cells b c' e' f' hk' hb).trans hk'.symm)]
  exact hu


end Go.Proofs.YthinpbdbhijbgaaGreatDoor
namespace Go.Proofs.YthinpbdbhijbgaaGreatDoor
open Go.RowKit
set_option maxHeartbeats 2000000

section
variable {P : Program} {o : Oper} {a : Act} {w : World}
theorem run_store_in (ty : TypeId) (x y : Operand) (ho : o.op = .store ty x y) (g k : Nat) (v : Value) (hx : a.eval x = .pointer (some ⟨g, k, none⟩)) (hy : a.eval y = v) (h1 : ∀ u ∈ v.cells.toList, u.oneCell' = true)
    (t : TypeId) (cur : Array Value) (hg : w.heap[g]? = some (.cells cur t (0, 0))) (hk : k + v.cells.size ≤ cur.size) (hi : (P.info? ty).map (·.size) = some v.cells.size) :
    (execOp a.eval o).run P w = .ok .skip (w.setRow g (cur.toList.take k ++ v.cells.toList ++ cur.toList.drop (k + v.cells.toList.length)).toArray) := by
  subst hy
  have hst := run_storeCells_at P g k t (a.eval y).cells.toList 0 cur w hg (by simpa using hk) h1
  simp only [Nat.add_zero] at hst
  cases hq : P.info? ty with
  | none => simp [hq] at hi
  | some i =>
    have hs : i.size = (a.eval y).cells.size := by simpa [hq] using hi
    unfold execOp
    simp only [ho, hx, Instr.storeAt, Instr.sureAddr, Sem.run_bind, Sem.run_pure, Result.andThen_ok]
    simp [storeVar, sizeOf, typeInfo, hq, hs, hst, Result.andThen]

theorem wpList_store_in {ops : Array Oper} {rest : List Oper} {Q : Exit → Act → World → Prop} (hgd : o.guard = none) (ty : TypeId) (x y : Operand) (ho : o.op = .store ty x y) (g k : Nat) (v : Value) (hx : a.eval x = .pointer (some ⟨g, k, none⟩)) (hy : a.eval y = v) (h1 : ∀ u ∈ v.cells.toList, u.oneCell' = true)
    (t : TypeId) (cur : Array Value) (hg : w.heap[g]? = some (.cells cur t (0, 0))) (hk : k + v.cells.size ≤ cur.size) (hi : (P.info? ty).map (·.size) = some v.cells.size) (cs : Array Value) (hcs : (cur.toList.take k ++ v.cells.toList ++ cur.toList.drop (k + v.cells.toList.length)).toArray = cs)
    (h : wpList P ops Q rest (a.put o.dst undef) (w.setRow g cs)) : wpList P ops Q (o :: rest) a w :=
  wpList_plain hgd fun K hK => wp_skipped (run_store_in ty x y ho g k v hx hy h1 t cur hg hk hi) (by rw [hcs]; exact hK _ _ h)

theorem wp_store_in {K : Act → World → Prop} {Q : Exit → Act → World → Prop} (ty : TypeId) (x y : Operand) (g k : Nat) (v : Value) (t : TypeId) (cur cs : Array Value) (hg : w.heap[g]? = some (.cells cur t (0, 0))) (hk : k + v.cells.size ≤ cur.size) (hi : (P.info? ty).map (·.size) = some v.cells.size)
    (hcs : (cur.toList.take k ++ v.cells.toList ++ cur.toList.drop (k + v.cells.toList.length)).toArray = cs) (h1 : ∀ u ∈ v.cells.toList, u.oneCell' = true) (hK : K (a.put o.dst undef) (w.setRow g cs))
    (ho : o.op = .store ty x y) (hx : a.eval x = .pointer (some ⟨g, k, none⟩)) (hy : a.eval y = v) : o.wp P a w K Q :=
  wp_skipped (run_store_in ty x y ho g k v hx hy h1 t cur hg hk hi) (by rw [hcs]; exact hK)

end

/-- All is as it was, but for blocks of a set. -/
structure Chg (S : Nat → Prop) (w w' : World) : Prop where
  os : w'.os = w.os
  tape : w'.tape = w.tape
  output : w'.output = w.output
  size : w.heap.size ≤ w'.heap.size
  same : ∀ k, k < w.heap.size → ¬ S k → w'.heap[k]? = w.heap[k]?
theorem Chg.refl (S : Nat → Prop) (w : World) : Chg S w w := ⟨rfl, rfl, rfl, Nat.le_refl _, fun _ _ _ => rfl⟩
theorem Chg.trans {S S' : Nat → Prop} {a b c : World} (h : Chg S a b) (k : Chg S' b c) (hS : ∀ i, i < a.heap.size → S' i → S i) : Chg S a c :=
  ⟨k.os.trans h.os, k.tape.trans h.tape, k.output.trans h.output, Nat.le_trans h.size k.size, fun i hi hn => (k.same i (Nat.lt_of_lt_of_le hi h.size) fun hs => hn (hS i hi hs)).trans (h.same i hi hn)⟩
theorem Chg.of_ext {S : Nat → Prop} {a b : World} (h : Ext a b) : Chg S a b := ⟨h.os, h.tape, h.output, h.size, fun k hk _ => h.block k hk⟩
theorem Chg.set {S : Nat → Prop} (r : Nat) (w : World) (cs : Array Value) (hr : S r) : Chg S w (w.setRow r cs) := ⟨rfl, rfl, rfl, by simp, fun k _ hn => setRow_other _ _ _ _ fun e => hn (e ▸ hr)⟩
theorem Chg.grown {S : Nat → Prop} {a b : World} {row : Option Nat} (h : a.grownBy b row) (hr : ∀ k, row = some k → k < a.heap.size → S k) : Chg S a b :=
  ⟨h.os, h.tape, h.output, h.size, fun k hk hn => h.block k hk fun e => hn (hr k e.symm hk)⟩
theorem Chg.below {S : Nat → Prop} {B : Nat} {w w' : World} (h : Chg S w w') (hB : ∀ k, S k → B ≤ k) (hs : B ≤ w.heap.size) : Below B w w' :=
  ⟨h.os, h.tape, h.output, h.size, fun k hk => h.same k (by omega) fun hs => by have := hB k hs; omega⟩
theorem Chg.mono {S S' : Nat → Prop} {w w' : World} (h : Chg S w w') (hS : ∀ k, k < w.heap.size → S k → S' k) : Chg S' w w' := ⟨h.os, h.tape, h.output, h.size, fun k hk hn => h.same k hk fun hs => hn (hS k hk hs)⟩
end Go.Proofs.YthinpbdbhijbgaaGreatDoor
namespace Go.Proofs.YthinpbdbhijbgaaGreatDoor
open Go.RowKit
set_option maxHeartbeats 2000000
set_option maxRecDepth 100000

/-- What the region has done. -/
def StG (W3 : World) (gs : Nat) (cs : Array Value) (d : Nat → Bool) (W : World) : Prop :=
  Chg (· = gs) W3 W ∧ W.heap[gs]? = some (.cells (if d 9 = true then cs else zeroStat) 139 (0, 0))
theorem StG.ext {W3 : World} {gs : Nat} {cs : Array Value} {i : Nat} (hi : i ≠ 9) (d d' : Nat → Bool) (w w' : World) (h : StG W3 gs cs d w) (he : Ext w w') (hd : ∀ k, k ≠ i → d' k = d k) : StG W3 gs cs d' w' := by
  obtain ⟨h1, h2⟩ := h
  refine ⟨h1.trans (Chg.of_ext (S := fun _ => False) he) (fun _ _ h => h.elim), ?_⟩
  rw [hd 9 (Ne.symm hi), he.block gs (Array.getElem?_eq_some_iff.1 h2).1]
  exact h2
end Go.Proofs.YthinpbdbhijbgaaGreatDoor
namespace Go.Proofs.YthinpbdbhijbgaaGreatDoor
open Go.RowKit
set_option maxHeartbeats 1000000

section
variable {P : Program} {ops : Array Oper} {rest : List Oper} {o : Oper} {a : Act} {Q : Exit → Act → World → Prop}
theorem wpList_next_left (w : World) (hg : o.guard = none) (it : Operand) (hop : o.op = Op.next it false) (kt : TypeId) (hk : P.underlying kt = some .string) (b r n : Nat) (m : List (Key × Value)) (left : Lit → Bool) (cnt : Nat)
    (hit : a.eval it = .pointer (some ⟨r, 0, none⟩)) (h : w.ranges P kt Rv b r n (kvD m) left cnt)
    (hDone : (∀ kl, left kl = false) → wpList P ops Q rest (a.put o.dst (.tuple #[.bool false])) w)
    (hMore : ∀ (s : ByteArray) (v : Value) (w' : World) (cnt' : Nat), s.size ≤ maxLen → left (.string s.data.toList) = true → mget m s.data.toList = some v → w'.ranges P kt Rv b r n (kvD m) (fun z => left z && !z.sameKey (.string s.data.toList)) cnt' → cnt' < cnt →
      w.grownBy w' (some r) → w'.heap.size = w.heap.size → (Instr.entry (.pointer (some ⟨r, 0, none⟩))).run P w' = .ok (.tuple #[.string s, v]) w' → wpList P ops Q rest (a.put o.dst (.tuple #[.bool true, .string s, v])) w') :
    wpList P ops Q (o :: rest) a w :=
  wpList_next_ranges w hg it hop kt (Maps.string_keyed hk) Rv Value.string (id : Value → Value) (fun key kl hkey => by
      simp only [keyOf, hk, mapKey] at hkey
      cases key <;> simp at hkey
      exact ⟨_, rfl⟩) (fun v y _ => ⟨v, rfl⟩) b r n (kvD m) left cnt hit h (fun _ => hDone) fun s v kl y w' cnt' hkey hlk hv hat hrg hlt hgr hsz hen => by
    have hkl : kl = .string s.data.toList ∧ s.size ≤ maxLen := by
      simp only [keyOf, hk, mapKey] at hkey
      split at hkey
      · rename_i hs; exact ⟨(Option.some.inj hkey).symm, hs⟩
      · cases hkey
    obtain ⟨rfl, hs⟩ := hkl
    simp only [Rv, id, Option.some.injEq] at hv
    subst hv
    refine hMore s v w' cnt' hs hlk ?_ hrg hlt hgr hsz hen
    have h1 := hat (.held (.bool true))
    have h2 := hat (.held (.bool false))
    rw [kvD_at] at h1 h2
    simp only [DataW.held.injEq] at h1 h2
    cases hq : mget m s.data.toList with
    | some u => rw [hq] at h1; exact congrArg some h1
    | none => rw [hq] at h1 h2; simp at h1 h2; rw [← h1] at h2; cases h2
end
end Go.Proofs.YthinpbdbhijbgaaGreatDoor
namespace Go.Proofs.YthinpbdbhijbgaaGreatDoor
open Go.RowKit
set_option maxHeartbeats 1000000

/-- The steps from a path to the root: is s among them? -/
def undF : Nat → ByteArray → ByteArray → Bool
  | 0, p, s => p.data == s.data
  | f + 1, p, s => p.data == s.data || (p.size != 1 && undF f (parentB p) s)
def und (p s : ByteArray) : Bool := undF p.size p s

/-- Each node's parent is there. -/
def Clo (M : List (Key × Nd)) : Prop := ∀ x ∈ M, x.2.path.size ≠ 1 → ∃ y ∈ M, y.2.path = parentB x.2.path

theorem und_self (p : ByteArray) : und p p = true := by
  unfold und
  cases p.size <;> simp [undF]

theorem und_size {M : List (Key × Nd)} (hM : MOk M) (hc : Clo M) : ∀ (f : Nat) (x : Key × Nd), x ∈ M → ∀ s, undF f x.2.path s = true → s.size ≤ x.2.path.size
  | 0, x, _, s, h => by
    have : x.2.path = s := by
      simp only [undF, beq_iff_eq] at h
      exact ByteArray.ext h
    rw [this]; exact Nat.le_refl _
  | f + 1, x, hx, s, h => by
    simp only [undF, Bool.or_eq_true, beq_iff_eq, Bool.and_eq_true, bne_iff_ne, ne_eq] at h
    rcases h with h | ⟨h1, h⟩
    · have : x.2.path = s := ByteArray.ext h
      rw [this]; exact Nat.le_refl _
    · obtain ⟨y, hy, ey⟩ := hc x hx h1
      have := und_size hM hc f y hy s (by rw [ey]; exact h)
      have hs := (path_split (right_vpath (hM.right x hx)) h1).2.2.1
      rw [ey] at this
      omega

theorem MOk.pos {M : List (Key × Nd)} (hM : MOk M) {x : Key × Nd} (hx : x ∈ M) : 0 < x.2.path.size := by
  have := (vpath_facts (right_vpath (hM.right x hx))).1
  omega

theorem und_fuel {M : List (Key × Nd)} (hM : MOk M) (hc : Clo M) : ∀ (f g : Nat) (x : Key × Nd), x ∈ M → x.2.path.size ≤ f → x.2.path.size ≤ g → ∀ s, undF f x.2.path s = undF g x.2.path s
  | 0, _, x, hx, hf, _, s => by have := hM.pos hx; omega
  | _ + 1, 0, x, hx, _, hg, s => by have := hM.pos hx; omega
  | f + 1, g + 1, x, hx, hf, hg, s => by
    simp only [undF]
    by_cases h1 : x.2.path.size = 1
    · simp only [h1, bne_self_eq_false, Bool.false_and]
    · obtain ⟨y, hy, ey⟩ := hc x hx h1
      have hs := (path_split (right_vpath (hM.right x hx)) h1).2.2.1
      have e1 := und_fuel hM hc f g y hy (by rw [ey]; omega) (by rw [ey]; omega) s
      rw [ey] at e1
      rw [e1]

theorem und_one {M : List (Key × Nd)} (hM : MOk M) {x : Key × Nd} (hx : x ∈ M) (h1 : x.2.path.size = 1) (s : ByteArray) : und x.2.path s = (x.2.path.data == s.data) := by
  unfold und
  rw [h1]
  simp only [undF, h1, bne_self_eq_false, Bool.false_and, Bool.or_false]

theorem und_up {M : List (Key × Nd)} (hM : MOk M) (hc : Clo M) {x y : Key × Nd} (hx : x ∈ M) (hy : y ∈ M) (h1 : x.2.path.size ≠ 1) (ey : y.2.path = parentB x.2.path) (s : ByteArray) :
    und x.2.path s = (x.2.path.data == s.data || und y.2.path s) := by
  have hp := hM.pos hx
  have hs := (path_split (right_vpath (hM.right x hx)) h1).2.2.1
  obtain ⟨g, hg⟩ : ∃ g, x.2.path.size = g + 1 := ⟨x.2.path.size - 1, by omega⟩
  have e1 := und_fuel hM hc g y.2.path.size y hy (by rw [ey]; omega) (Nat.le_refl _) s
  have h2 : (x.2.path.size != 1) = true := by simpa using h1
  unfold und
  rw [hg]
  simp only [undF]
  rw [hg] at h2
  rw [hg, h2, ← ey, e1, Bool.true_and]

theorem und_le {M : List (Key × Nd)} (hM : MOk M) (hc : Clo M) {x : Key × Nd} (hx : x ∈ M) {s : ByteArray} (h : und x.2.path s = true) : s.size ≤ x.2.path.size := und_size hM hc _ x hx s h

section sums
variable {α β : Type}
end sums

/-- A list that holds s and the children of each that it holds has all that is under s. -/
theorem und_closed {M : List (Key × Nd)} (hM : MOk M) (hc : Clo M) (s : ByteArray) (l : List ByteArray) (hs : s ∈ l) (hl : ∀ x ∈ M, x.2.path.size ≠ 1 → parentB x.2.path ∈ l → x.2.path ∈ l) :
    ∀ (f : Nat) (x : Key × Nd), x ∈ M → x.2.path.size ≤ f → und x.2.path s = true → x.2.path ∈ l
  | 0, x, hx, hf, _ => by have := hM.pos hx; omega
  | f + 1, x, hx, hf, h => by
    by_cases h1 : x.2.path.size = 1
    · rw [und_one hM hx h1] at h
      rw [ByteArray.ext (beq_iff_eq.1 h)]; exact hs
    · obtain ⟨y, hy, ey⟩ := hc x hx h1
      have hsz := (path_split (right_vpath (hM.right x hx)) h1).2.2.1
      rw [und_up hM hc hx hy h1 ey, Bool.or_eq_true] at h
      rcases h with h | h
      · rw [ByteArray.ext (beq_iff_eq.1 h)]; exact hs
      · exact hl x hx h1 (by rw [← ey]; exact und_closed hM hc s l hs hl f y hy (by rw [ey]; omega) h)

theorem und_child {M : List (Key × Nd)} (hM : MOk M) (hc : Clo M) {x y : Key × Nd} (hx : x ∈ M) (hy : y ∈ M) (h : childOf y.2.path x.2 = true) (s : ByteArray) (hu : und y.2.path s = true) : und x.2.path s = true := by
  obtain ⟨h1, h2⟩ := childOf_iff.1 h
  rw [und_up hM hc hx hy h1 h2.symm, hu, Bool.or_true]
end Go.Proofs.YthinpbdbhijbgaaGreatDoor
namespace Go.Proofs.YthinpbdbhijbgaaGreatDoor
open Go.RowKit
set_option maxHeartbeats 1000000

theorem nodup_at {l : List ByteArray} (h : l.Nodup) {i j : Nat} (hi : i < l.length) (hj : j < l.length) (e : l[i] = l[j]) : i = j := by
  have hp := List.pairwise_iff_getElem.1 h
  rcases Nat.lt_trichotomy i j with hij | hij | hij
  · exact absurd e (hp i j hi hj hij)
  · exact hij
  · exact absurd e.symm (hp j i hj hi hij)
theorem nodup_len : ∀ (l m : List ByteArray), l.Nodup → l ⊆ m → l.length ≤ m.length
  | [], m, _, _ => Nat.zero_le _
  | a :: l, m, h, hs => by
    obtain ⟨h1, h2⟩ := List.nodup_cons.1 h
    obtain ⟨u, v, e⟩ := List.append_of_mem (hs (List.mem_cons_self ..))
    have := nodup_len l (u ++ v) h2 fun b hb => by
      have hb' := hs (List.mem_cons_of_mem _ hb)
      rw [e] at hb'
      rcases List.mem_append.1 hb' with hb' | hb'
      · exact List.mem_append_left _ hb'
      · rcases List.mem_cons.1 hb' with hb' | hb'
        · subst hb'; exact absurd hb h1
        · exact List.mem_append_right _ hb'
    rw [e]
    simp only [List.length_append, List.length_cons] at this ⊢
    omega

/-- l's places ahead of i are done, of place i those children that are not left. -/
structure Bfs (M : List (Key × Nd)) (s : ByteArray) (l : List ByteArray) (i : Nat) (left : Key → Bool) : Prop where
  head : s ∈ l
  nodup : l.Nodup
  mem : ∀ p ∈ l, ∃ x ∈ M, x.2.path = p ∧ und p s = true
  done : ∀ j p, j < i → l[j]? = some p → ∀ x ∈ M, childOf p x.2 = true → x.2.path ∈ l
  part : ∀ p, l[i]? = some p → ∀ x ∈ M, childOf p x.2 = true → left (nameK x.2) = false → x.2.path ∈ l
  back : ∀ p ∈ l, p = s ∨ ∃ j q, l[j]? = some q ∧ p.size ≠ 1 ∧ parentB p = q ∧ (j < i ∨ (j = i ∧ left (nameB p).data.toList = false))

theorem Bfs.round {M : List (Key × Nd)} {s : ByteArray} {l : List ByteArray} {i : Nat} {left : Key → Bool} (h : Bfs M s l i left) {p : ByteArray} (hp : l[i]? = some p) (hl : ∀ y ∈ kidsOf M p, left y.1 = false) : Bfs M s l (i + 1) (fun _ => true) :=
  ⟨h.head, h.nodup, h.mem, fun j q hj hq x hx hc => by
    by_cases hji : j = i
    · subst hji
      have e : p = q := Option.some.inj (hp.symm.trans hq)
      subst e
      exact h.part p hp x hx hc (hl _ (mem_kids.2 ⟨x, hx, hc, rfl⟩))
    · exact h.done j q (by omega) hq x hx hc, fun p _ y _ _ hh => by simp at hh, fun q hq => by
    rcases h.back q hq with e | ⟨j, r, h1, h2, h3, h4⟩
    · exact .inl e
    · exact .inr ⟨j, r, h1, h2, h3, .inl (by rcases h4 with h4 | h4 <;> omega)⟩⟩

theorem Bfs.step {M : List (Key × Nd)} (hM : MOk M) (hc : Clo M) {s : ByteArray} {l : List ByteArray} {i : Nat} {left : Key → Bool} (h : Bfs M s l i left) {p : ByteArray} (hp : l[i]? = some p) {x : Key × Nd} (hx : x ∈ M) (hch : childOf p x.2 = true) (hleft : left (nameK x.2) = true) :
    Bfs M s (l ++ [x.2.path]) i (fun k => left k && !(k == nameK x.2)) := by
  obtain ⟨c1, c2⟩ := childOf_iff.1 hch
  obtain ⟨y, hy, ey, hu⟩ := h.mem p (List.mem_of_getElem? hp)
  have hsz := (path_split (right_vpath (hM.right x hx)) c1).2.2.1
  have hnew : x.2.path ∉ l := by
    intro hm
    rcases h.back _ hm with e | ⟨j, q, h1, h2, h3, h4⟩
    · have := und_le hM hc hy (by rw [ey]; exact hu)
      rw [← e, ey, ← c2] at this
      omega
    · rw [c2] at h3
      subst h3
      have hj : j = i := by
        obtain ⟨a1, a2⟩ := List.getElem?_eq_some_iff.1 h1
        obtain ⟨b1, b2⟩ := List.getElem?_eq_some_iff.1 hp
        exact nodup_at h.nodup a1 b1 (a2.trans b2.symm)
      rcases h4 with h4 | ⟨_, h4⟩
      · omega
      · rw [show (nameB x.2.path).data.toList = nameK x.2 from rfl, hleft] at h4; cases h4
  obtain ⟨hi, ei⟩ := List.getElem?_eq_some_iff.1 hp
  have old : ∀ j q, (l ++ [x.2.path])[j]? = some q → j ≤ i → l[j]? = some q := fun j q hq hji => by
    rwa [List.getElem?_append_left (by omega)] at hq
  refine ⟨by simp [h.head], ?_, fun q hq => ?_, fun j q hj hq z hz hcz => ?_, fun q hq z hz hcz hlz => ?_, fun q hq => ?_⟩
  · rw [List.nodup_append]
    refine ⟨h.nodup, by simp, fun a ha b hb => ?_⟩
    have : b = x.2.path := by simpa using hb
    subst this
    exact fun e => hnew (e ▸ ha)
  · rcases List.mem_append.1 hq with hq | hq
    · exact h.mem q hq
    · have : q = x.2.path := by simpa using hq
      subst this
      exact ⟨x, hx, rfl, und_child hM hc hx hy (by rw [ey]; exact hch) s (by rw [ey]; exact hu)⟩
  · exact List.mem_append_left _ (h.done j q hj (old j q hq (by omega)) z hz hcz)
  · have hq' := old i q hq (Nat.le_refl _)
    have e : p = q := Option.some.inj (hp.symm.trans hq')
    subst e
    by_cases hn : nameK z.2 = nameK x.2
    · obtain ⟨d1, d2⟩ := childOf_iff.1 hcz
      have : z.2.path = x.2.path := by
        have a1 := (path_split (right_vpath (hM.right z hz)) d1).1
        have a2 := (path_split (right_vpath (hM.right x hx)) c1).1
        apply ba_ext
        rw [a1, a2, d2, c2]
        unfold nameK at hn
        rw [hn]
      rw [this]; simp
    · refine List.mem_append_left _ (h.part p hq' z hz hcz ?_)
      simpa [hn] using hlz
  · rcases List.mem_append.1 hq with hq | hq
    · rcases h.back q hq with e | ⟨j, r, h1, h2, h3, h4⟩
      · exact .inl e
      · refine .inr ⟨j, r, ?_, h2, h3, ?_⟩
        · rw [List.getElem?_append_left (List.getElem?_eq_some_iff.1 h1).1]; exact h1
        · rcases h4 with h4 | ⟨h4, h5⟩
          · exact .inl h4
          · exact .inr ⟨h4, by rw [h5]; rfl⟩
    · have : q = x.2.path := by simpa using hq
      subst this
      refine .inr ⟨i, p, ?_, c1, c2, .inr ⟨rfl, ?_⟩⟩
      · rw [List.getElem?_append_left hi]; exact hp
      · rw [show (nameB x.2.path).data.toList = nameK x.2 from rfl]
        simp

/-- In the end: just what is under s. -/
theorem Bfs.all {M : List (Key × Nd)} (hM : MOk M) (hc : Clo M) {s : ByteArray} {l : List ByteArray} {left : Key → Bool} (h : Bfs M s l l.length left) (p : ByteArray) : p ∈ l ↔ ∃ x ∈ M, x.2.path = p ∧ und p s = true := by
  constructor
  · exact h.mem p
  · rintro ⟨x, hx, rfl, hu⟩
    refine und_closed hM hc s l h.head (fun z hz h1 hpz => ?_) _ x hx (Nat.le_refl _) hu
    obtain ⟨j, hj, ej⟩ := List.getElem_of_mem hpz
    exact h.done j _ hj (by rw [List.getElem?_eq_getElem hj, ej]) z hz (childOf_iff.2 ⟨h1, rfl⟩)

/-- How long it gets. -/
theorem Bfs.length_le {M : List (Key × Nd)} {s : ByteArray} {l : List ByteArray} {i : Nat} {left : Key → Bool} (h : Bfs M s l i left) : l.length ≤ M.length := by
  have hsub : l ⊆ M.map (fun x => x.2.path) := fun p hp => by
    obtain ⟨x, hx, e, _⟩ := h.mem p hp
    exact List.mem_map.2 ⟨x, hx, e⟩
  have := nodup_len l _ h.nodup hsub
  simpa using this
end Go.Proofs.YthinpbdbhijbgaaGreatDoor
namespace Go.Proofs.YthinpbdbhijbgaaGreatDoor
open Go.RowKit
set_option maxHeartbeats 1000000

theorem perm_nodup : ∀ (l m : List Key), l.Nodup → m.Nodup → (∀ x, x ∈ l ↔ x ∈ m) → l.Perm m
  | [], m, _, _, h => by
    cases m with
    | nil => exact .refl _
    | cons b m => exact absurd ((h b).2 (List.mem_cons_self ..)) (by simp)
  | a :: l, m, hl, hm, h => by
    obtain ⟨u, v, rfl⟩ := List.append_of_mem ((h a).1 (List.mem_cons_self ..))
    obtain ⟨h1, h2⟩ := List.nodup_cons.1 hl
    have hm' : (a :: (u ++ v)).Nodup := (List.perm_middle.nodup_iff).1 hm
    obtain ⟨k1, k2⟩ := List.nodup_cons.1 hm'
    refine ((perm_nodup l (u ++ v) h2 k2 fun x => ?_).cons a).trans List.perm_middle.symm
    constructor
    · intro hx
      have := (h x).1 (List.mem_cons_of_mem _ hx)
      have hne : x ≠ a := fun e => h1 (e ▸ hx)
      simp only [List.mem_append, List.mem_cons] at this ⊢
      rcases this with h | h | h
      · exact .inl h
      · exact absurd h hne
      · exact .inr h
    · intro hx
      have hne : x ≠ a := fun e => k1 (e ▸ hx)
      have : x ∈ u ++ a :: v := by
        simp only [List.mem_append, List.mem_cons] at hx ⊢
        rcases hx with h | h
        · exact .inl h
        · exact .inr (.inr h)
      rcases List.mem_cons.1 ((h x).2 this) with h | h
      · exact absurd h hne
      · exact h

/-- The keys under s, in order. -/
def undK (M : List (Key × Nd)) (s : ByteArray) : List Key := (M.filter fun x => und x.2.path s).map (·.1)

theorem undK_sorted {M : List (Key × Nd)} (hM : MOk M) (s : ByteArray) : (undK M s).Pairwise fun a b => bytesBefore a b = true := by
  unfold undK
  rw [List.pairwise_map, List.pairwise_filter]
  exact List.Pairwise.imp (fun h _ _ => h) hM.sorted

theorem Bfs.sorted {M : List (Key × Nd)} (hM : MOk M) (hc : Clo M) {s : ByteArray} {l : List ByteArray} {left : Key → Bool} (h : Bfs M s l l.length left) :
    (l.map fun p => p.data.toList).mergeSort (fun x y => decide (x ≤ y)) = undK M s := by
  refine sortedKeys (undK_sorted hM s) (perm_nodup _ _ ?_ ?_ fun k => ?_)
  · unfold List.Nodup
    rw [List.pairwise_map]
    exact List.Pairwise.imp (fun h e => h (ba_ext e)) h.nodup
  · refine List.Pairwise.imp (fun {a b} hab e => ?_) (undK_sorted hM s)
    rw [e] at hab
    exact before_asymm hab hab
  · unfold undK
    simp only [List.mem_map, List.mem_filter]
    constructor
    · rintro ⟨p, hp, rfl⟩
      obtain ⟨x, hx, e, hu⟩ := (h.all hM hc p).1 hp
      exact ⟨x, ⟨hx, by rw [e]; exact hu⟩, by rw [hM.key x hx]; unfold keyN; rw [e]⟩
    · rintro ⟨x, ⟨hx, hu⟩, rfl⟩
      exact ⟨x.2.path, (h.all hM hc _).2 ⟨x, hx, rfl, hu⟩, (hM.key x hx).symm⟩
end Go.Proofs.YthinpbdbhijbgaaGreatDoor
namespace Go.Proofs.YthinpbdbhijbgaaGreatDoor
open Go.RowKit
set_option maxHeartbeats 1000000
set_option maxRecDepth 100000

end Go.Proofs.YthinpbdbhijbgaaGreatDoor
namespace Go.Proofs.YthinpbdbhijbgaaGreatDoor
open Go.RowKit
set_option maxHeartbeats 1000000

end Go.Proofs.YthinpbdbhijbgaaGreatDoor
namespace Go.Proofs.YthinpbdbhijbgaaGreatDoor
open Go.RowKit Go.Sort
set_option maxHeartbeats 2000000
set_option maxRecDepth 100000

/-- A range over a map that may be nil: which names are left. -/
def RngAt (W : World) (r : Nat) (mb : Option Nat) (L : List (Key × Value)) (left : Key → Bool) : Prop :=
  match mb with
  | some b => ∃ (lf : Lit → Bool) (cnt : Nat), (∀ k, lf (.string k) = left k) ∧ W.ranges Tryz.prog 9 Rv b r L.length (kvD L) lf cnt
  | none => L = [] ∧ (∀ k, left k = false) ∧ W.heap[r]? = some (.mapIter none 0 #[] 0)
def rngLeft (mb : Option Nat) (r : Nat) (W : World) : Nat := match mb with | some b => W.rangeLeft b r | none => 0

theorem RngAt.iter {W : World} {r : Nat} {mb : Option Nat} {L : List (Key × Value)} {left : Key → Bool} (h : RngAt W r mb L left) : ∃ m s c d, W.heap[r]? = some (.mapIter m s c d) := by
  cases mb with
  | some b =>
    obtain ⟨lf, cnt, _, es, clock, since, seen, c0, _, _, _, _, hr, _⟩ := h
    exact ⟨_, _, _, _, hr⟩
  | none => exact ⟨_, _, _, _, h.2.2⟩
theorem RngAt.kept {W W' : World} {r : Nat} {mb : Option Nat} {L : List (Key × Value)} {left : Key → Bool} {row : Option Nat} (h : RngAt W r mb L left) (hg : W.grownBy W' row) (hb : ∀ b, mb = some b → some b ≠ row) (hr : some r ≠ row) : RngAt W' r mb L left ∧ rngLeft mb r W' = rngLeft mb r W := by
  cases mb with
  | some b =>
    obtain ⟨lf, cnt, h1, h2⟩ := h
    have h3 := h2.kept hg (hb b rfl) hr
    exact ⟨⟨lf, cnt, h1, h3⟩, by show W'.rangeLeft b r = W.rangeLeft b r; rw [h3.left_eq, h2.left_eq]⟩
  | none =>
    obtain ⟨h1, h2, h3⟩ := h
    exact ⟨⟨h1, h2, (hg.block r (Array.getElem?_eq_some_iff.1 h3).1 hr).trans h3⟩, rfl⟩

section
variable {ops : Array Oper} {rest : List Oper} {o : Oper} {a : Act} {Q : Exit → Act → World → Prop}
end

/-- What the region that ranges leaves. -/
def UnG (Wr : World) (mb : Option Nat) (L : List (Key × Value)) (d : Nat → Bool) (W : World) : Prop :=
  if d 9 = true then RngAt W Wr.heap.size mb L (fun k => (mget L k).isSome) ∧ Wr.grownBy W none ∧ W.heap.size = Wr.heap.size + 1 else Ext Wr W ∧ W.heap.size = Wr.heap.size
theorem UnG.same {Wr : World} {mb : Option Nat} {L : List (Key × Value)} {i : Nat} (hi : i ≠ 9) (d d' : Nat → Bool) (w : World) (h : UnG Wr mb L d w) (hd : ∀ k, k ≠ i → d' k = d k) : UnG Wr mb L d' w := by
  unfold UnG at h ⊢
  rw [hd 9 (Ne.symm hi)]
  exact h

theorem Bfs.enter {M : List (Key × Nd)} {s : ByteArray} {l : List ByteArray} {i : Nat} {p : ByteArray} (h : Bfs M s l i (fun _ => true)) (hp : l[i]? = some p) : Bfs M s l i (fun k => (mget (kidsOf M p) k).isSome) := by
  refine ⟨h.head, h.nodup, h.mem, h.done, fun q hq x hx hc hl => ?_, fun q hq => ?_⟩
  · exfalso
    have e : p = q := Option.some.inj (hp.symm.trans hq)
    subst e
    have hm : (nameK x.2, Value.agg #[]) ∈ kidsOf M p := mem_kids.2 ⟨x, hx, hc, rfl⟩
    cases hg : mget (kidsOf M p) (nameK x.2) with
    | none => exact mget_none hg _ hm rfl
    | some v => rw [hg] at hl; cases hl
  · rcases h.back q hq with e | ⟨j, r, h1, h2, h3, h4⟩
    · exact .inl e
    · refine .inr ⟨j, r, h1, h2, h3, .inl ?_⟩
      rcases h4 with h4 | ⟨_, h4⟩
      · exact h4
      · cases h4

end Go.Proofs.YthinpbdbhijbgaaGreatDoor
namespace Go.Proofs.YthinpbdbhijbgaaGreatDoor
open Go.RowKit
set_option maxHeartbeats 400000
set_option maxRecDepth 100000

end Go.Proofs.YthinpbdbhijbgaaGreatDoor
namespace Go.Proofs.YthinpbdbhijbgaaGreatDoor
open Go.RowKit
set_option maxHeartbeats 400000
set_option maxRecDepth 100000

end Go.Proofs.YthinpbdbhijbgaaGreatDoor
namespace Go.Proofs.YthinpbdbhijbgaaGreatDoor
open Go.RowKit
set_option maxHeartbeats 2000000
set_option maxRecDepth 100000

end Go.Proofs.YthinpbdbhijbgaaGreatDoor
namespace Go.Proofs.YthinpbdbhijbgaaGreatDoor
open Go.RowKit
set_option maxHeartbeats 2000000
set_option maxRecDepth 100000

/-- Rows that show nodes, all in blocks of a set. -/
structure RowsOf (S : Nat → Prop) (w : World) (a : Option Addr) (vs : List (Array Value)) (L : List Nd) : Prop where
  len : vs.length = L.length
  cells : CellsS S w a (vs.flatMap Array.toList)
  each : ∀ (j : Nat) (cs : Array Value), vs[j]? = some cs → ∃ n, L[j]? = some n ∧ NdS S w (.agg cs) n

/-- A slice's address: none, or a plain one. -/
def PlainA (a : Option Addr) (cap : Nat) : Prop := (a = none ∧ cap = 0) ∨ ∃ b off, a = some ⟨b, off, none⟩

theorem RowsOf.imp {S S' : Nat → Prop} {w w' : World} {a : Option Addr} {vs : List (Array Value)} {L : List Nd} (h : RowsOf S w a vs L) (hS : ∀ b, S b → S' b) (hw : ∀ k, S k → w'.heap[k]? = w.heap[k]?) : RowsOf S' w' a vs L :=
  ⟨h.len, h.cells.imp hS fun b o u hb hu => (World.cell?_of_block (hw b hb)).trans hu, fun j cs hj => by
    obtain ⟨n, hn, hN⟩ := h.each j cs hj
    exact ⟨n, hn, NdS.imp hN hS fun b o u hb hu => (World.cell?_of_block (hw b hb)).trans hu⟩⟩
theorem RowsOf.v17 {S : Nat → Prop} {w : World} {a : Option Addr} {vs : List (Array Value)} {L : List Nd} (h : RowsOf S w a vs L) : ∀ x ∈ vs, x.size = 17 := fun x hx => by
  obtain ⟨i, hi, ei⟩ := List.getElem_of_mem hx
  obtain ⟨n2, _, da2, dc2, aa2, ac2, e2, _⟩ := h.each i x (by rw [List.getElem?_eq_getElem hi, ei])
  simp only [Value.agg.injEq] at e2
  rw [e2]; rfl
/-- The j-th row. -/
theorem RowsOf.row {S : Nat → Prop} {w : World} {a : Option Addr} {vs : List (Array Value)} {L : List Nd} (h : RowsOf S w a vs L) {j : Nat} {n : Nd} (hj : L[j]? = some n) :
    ∃ b off da dc aa ac, a = some ⟨b, off, none⟩ ∧ S b ∧ (∀ r u, (ndC n (.slice da n.data.length dc) (.slice aa n.acl.length ac))[r]? = some u → w.cell? ⟨b, off + j * 17 + r, none⟩ = some u) ∧ CellsS S w da (n.data.map u8v) ∧ CellsS S w aa (acCs n.acl) ∧ vs[j]? = some (ndC n (.slice da n.data.length dc) (.slice aa n.acl.length ac)) := by
  have hjl := (List.getElem?_eq_some_iff.1 hj).1
  have hvk : vs[j]? = some (vs[j]'(by rw [h.len]; exact hjl)) := List.getElem?_eq_getElem _
  obtain ⟨n', hn', da, dc, aa, ac, e, hD, hA⟩ := h.each j _ hvk
  obtain rfl : n' = n := by rw [hj] at hn'; exact (Option.some.inj hn').symm
  simp only [Value.agg.injEq] at e
  rw [e] at hvk
  have hfl := flat17 vs j _ h.v17 hvk
  obtain ⟨b, off, rfl, hb, _⟩ := h.cells (j * 17 + 0) _ (hfl 0 (.string n'.path) rfl)
  refine ⟨b, off, da, dc, aa, ac, rfl, hb, fun r u hr => ?_, hD, hA, hvk⟩
  obtain ⟨b', off', e1, _, c1⟩ := h.cells (j * 17 + r) _ (hfl r u hr)
  simp only [Option.some.injEq, Addr.mk.injEq, and_true] at e1
  obtain ⟨rfl, rfl⟩ := e1
  rw [Nat.add_assoc]; exact c1

/-- A row of the call's own that shows nodes. -/
theorem RowsOf.of_own {S : Nat → Prop} {w : World} {base n : Nat} {v : Value} {vs : List (Array Value)} {L : List Nd} (h : w.ownsRow base 44 17 v n (vs.flatMap Array.toList)) (hn : n = L.length) (hl : vs.length = L.length) (hS : ∀ k, base ≤ k → k < w.heap.size → S k)
    (he : ∀ (j : Nat) (cs : Array Value), vs[j]? = some cs → ∃ n, L[j]? = some n ∧ NdS S w (.agg cs) n) : ∃ a c, v = .slice a n c ∧ n ≤ c ∧ c ≤ maxLen ∧ RowsOf S w a vs L ∧ PlainA a c := by
  rcases h.2 with ⟨rfl, h0⟩ | ⟨g, cap, cur, rfl, hb, hg, h1, h2, h3, h4⟩
  · have hL : L = [] := List.eq_nil_of_length_eq_zero (by omega)
    have hv : vs = [] := List.eq_nil_of_length_eq_zero (by rw [hl, hL]; rfl)
    subst h0 hL hv
    exact ⟨none, 0, rfl, Nat.le_refl _, Nat.zero_le _, ⟨rfl, fun j u hj => by simp at hj, he⟩, .inl ⟨rfl, rfl⟩⟩
  · refine ⟨some ⟨g, 0, none⟩, cap, rfl, h1, h2, ⟨hl, fun j u hj => ?_, he⟩, .inr ⟨g, 0, rfl⟩⟩
    have hc := h.cells (g := g) rfl j u hj
    rw [addr_add] at hc
    exact ⟨g, 0, rfl, hS g hb (Array.getElem?_eq_some_iff.1 hg).1, hc⟩

theorem RowsOf.one {S : Nat → Prop} {w : World} {a : Option Addr} {vs : List (Array Value)} {L : List Nd} (h : RowsOf S w a vs L) : ∀ u ∈ vs.flatMap Array.toList, u.oneCell' = true := fun u hu => by
  obtain ⟨x, hx, hux⟩ := List.mem_flatMap.1 hu
  obtain ⟨i, hi, ei⟩ := List.getElem_of_mem hx
  obtain ⟨n2, _, da2, dc2, aa2, ac2, e2, _⟩ := h.each i x (by rw [List.getElem?_eq_getElem hi, ei])
  simp only [Value.agg.injEq] at e2
  have := cells_node n2 da2 aa2 n2.data.length n2.acl.length dc2 ac2
  rw [← e2, ← Array.all_toList] at this
  exact List.all_eq_true.1 this u hux

def EachN (S : Nat → Prop) (w : World) (vs : List (Array Value)) (L : List Nd) : Prop := vs.length = L.length ∧ ∀ (j : Nat) (cs : Array Value), vs[j]? = some cs → ∃ n, L[j]? = some n ∧ NdS S w (.agg cs) n
theorem EachN.append {S : Nat → Prop} {w : World} {vs vs' : List (Array Value)} {L L' : List Nd} (h : EachN S w vs L) (k : EachN S w vs' L') : EachN S w (vs ++ vs') (L ++ L') := by
  refine ⟨by rw [List.length_append, List.length_append, h.1, k.1], fun j cs hj => ?_⟩
  by_cases hl : j < vs.length
  · rw [List.getElem?_append_left hl] at hj
    rw [List.getElem?_append_left (by rw [← h.1]; exact hl)]
    exact h.2 j cs hj
  · rw [List.getElem?_append_right (by omega)] at hj
    rw [List.getElem?_append_right (by rw [← h.1]; omega), ← h.1]
    exact k.2 _ cs hj
theorem EachN.take {S : Nat → Prop} {w : World} {vs : List (Array Value)} {L : List Nd} (h : EachN S w vs L) (i : Nat) : EachN S w (vs.take i) (L.take i) := by
  refine ⟨by rw [List.length_take, List.length_take, h.1], fun j cs hj => ?_⟩
  rw [List.getElem?_take] at hj ⊢
  split at hj
  · rename_i hlt; rw [if_pos hlt]; exact h.2 j cs hj
  · cases hj
theorem EachN.drop {S : Nat → Prop} {w : World} {vs : List (Array Value)} {L : List Nd} (h : EachN S w vs L) (i : Nat) : EachN S w (vs.drop i) (L.drop i) := by
  refine ⟨by rw [List.length_drop, List.length_drop, h.1], fun j cs hj => ?_⟩
  rw [List.getElem?_drop] at hj ⊢
  exact h.2 _ cs hj
theorem EachN.one {S : Nat → Prop} {w : World} {cs : Array Value} {n : Nd} (h : NdS S w (.agg cs) n) : EachN S w [cs] [n] := by
  refine ⟨rfl, fun j c hj => ?_⟩
  cases j with
  | zero => simp at hj; subst hj; exact ⟨n, rfl, h⟩
  | succ j => simp at hj
theorem grown_of_ext {a b : World} (h : Ext a b) (row : Option Nat) : a.grownBy b row := ⟨h.os, h.tape, h.output, h.size, fun k hk _ => h.block k hk⟩


/-- As an argument's list of nodes. -/
theorem RowsOf.nds {S : Nat → Prop} {w : World} {a : Option Addr} {vs : List (Array Value)} {L : List Nd} (h : RowsOf S w a vs L) {B : Nat} (hS : ∀ k, S k → k < B) : NdsAt B w a L := fun i n hi => by
  obtain ⟨b, off, da, dc, aa, ac, e, hb, hc, hD, hA, _⟩ := h.row hi
  exact ⟨b, off, _, e, hS b hb, ⟨da, dc, aa, ac, rfl, hD.cells hS, hA.cells hS⟩, hc⟩
end Go.Proofs.YthinpbdbhijbgaaGreatDoor
namespace Go.Proofs.YthinpbdbhijbgaaGreatDoor
open Go.RowKit
set_option maxHeartbeats 2000000
set_option maxRecDepth 100000

/-- The document's tree: a list of nodes. -/
def RTree (S : Nat → Prop) (w : World) (b : Nat) (L : List Nd) : Prop :=
  ∃ (a : Option Addr) (cap : Nat) (vs : List (Array Value)), w.heap[b]? = some (.cells #[.slice a L.length cap] 53 (0, 0)) ∧ L.length ≤ cap ∧ cap ≤ maxLen ∧ (∀ k, S k → k < w.heap.size ∧ k ≠ b) ∧ RowsOf S w a vs L ∧ PlainA a cap

theorem RTree.keep {S S' : Nat → Prop} {w w' : World} {b : Nat} {L : List Nd} (h : RTree S w b L) (hS : ∀ k, S k → S' k) (hb : w'.heap[b]? = w.heap[b]?) (hw : ∀ k, S k → w'.heap[k]? = w.heap[k]?) (hS' : ∀ k, S' k → k < w'.heap.size ∧ k ≠ b) : RTree S' w' b L := by
  obtain ⟨a, cap, vs, h1, h2, h3, h4, h5, h6⟩ := h
  exact ⟨a, cap, vs, hb.trans h1, h2, h3, hS', h5.imp hS hw, h6⟩
theorem RTree.lt {S : Nat → Prop} {w : World} {b : Nat} {L : List Nd} (h : RTree S w b L) : b < w.heap.size := by
  obtain ⟨a, cap, vs, h1, _⟩ := h
  exact (Array.getElem?_eq_some_iff.1 h1).1
theorem RTree.bound {S : Nat → Prop} {w : World} {b : Nat} {L : List Nd} (h : RTree S w b L) : ∀ k, S k → k < w.heap.size ∧ k ≠ b := by
  obtain ⟨a, cap, vs, _, _, _, h4, _, _⟩ := h
  exact h4
theorem RTree.ext {S : Nat → Prop} {w w' : World} {b : Nat} {L : List Nd} (h : RTree S w b L) (he : Ext w w') : RTree S w' b L :=
  h.keep (fun _ h => h) (he.block b h.lt) (fun k hk => he.block k (h.bound k hk).1) fun k hk => ⟨Nat.lt_of_lt_of_le (h.bound k hk).1 he.size, (h.bound k hk).2⟩

end Go.Proofs.YthinpbdbhijbgaaGreatDoor
