/- A range over a tree's nodes: the loop variable in a box of its own. -/
import Derived.Test.YtfgjbcejpjcpeaaDoorAll
namespace Go.Proofs.YtfgjbcejpjcpeaaDoor
open Go.RowKit Go.Sort
set_option maxHeartbeats 2000000
set_option maxRecDepth 100000

theorem ex_alloc_nd {o : Oper} {a : Act} {w : World} (ho : o.op = .alloc 37) : (execOp a.eval o).run Tryd.prog w = .ok (.value (.pointer (some ⟨w.heap.size, 0, none⟩))) (w.alloc (.cells zeroNd 37)) := by
  have hz : (zeroValue 37).run Tryd.prog w = .ok (.agg zeroNd) w := by kernel_rfl
  simp [execOp, ho, hz, newVar, newRow, go_sem]

theorem put_frame (T : Array Value) (p b : Tmp) (u v : Value) : ({ tmps := T.setIfInBounds p u, defers := [] } : Act).put (some b) v = { tmps := (T.setIfInBounds p u).setIfInBounds b v, defers := [] } := rfl
theorem eval_set_same {T : Array Value} {b : Tmp} {v : Value} (h : b < T.size) : ({ tmps := T.setIfInBounds b v, defers := [] } : Act).eval (.tmp b) = v := by
  simp [Act.eval, h]
theorem eval_set_other {T : Array Value} {b p : Tmp} {u v : Value} (h : p < T.size) (hne : b ≠ p) : ({ tmps := (T.setIfInBounds p u).setIfInBounds b v, defers := [] } : Act).eval (.tmp p) = u := by
  simp [Act.eval, Array.getElem?_setIfInBounds, h, hne]

/-- What the loop's own assignment leaves. -/
def AggA (T : Array Value) (p b : Tmp) (x : Value × Nd) (a' : Act) (W : World) : Prop :=
  ∃ bl da dc aa ac, x.1 = .agg (ndC x.2 (.slice da x.2.data.length dc) (.slice aa x.2.acl.length ac)) ∧ W.heap[bl]? = some (.cells (ndC x.2 (.slice da x.2.data.length dc) (.slice aa x.2.acl.length ac)) 37 (0, 0)) ∧
    a' = { tmps := (T.setIfInBounds p x.1).setIfInBounds b (.pointer (some ⟨bl, 0, none⟩)), defers := [] }

theorem wpIn_tells_nd {n : Nat} {Q : Exit → Act → World → Prop} {a : Act} {w : World} {g : Operand} {body : Code} {gf : Nat} {lb : Array Value} {Safe : World → Nat → Prop} {S Sp : List (Value × Nd) → Prop} {id : Nat} {p b : Tmp} {pos : String} {aft : Array Edge}
    (h1 : 1 ≤ n) (hg : a.eval g = .func (.func gf) #[] lb) (eg : ∀ args w, (callFunc gf args).run Tryd.prog w = .ok (.enter gf args) w)
    (hseq : Tells Fence.wide (n - 1) Tryd.prog gf lb (fun x : Value × Nd => #[x.1]) (GS Safe) (KeepS Safe) Safe S Sp w)
    (hp : p < a.tmps.size) (hb : b < a.tmps.size) (hne : b ≠ p)
    (I : List (Value × Nd) → World → Prop) (Ix : Code → List (Value × Nd) → World → Prop)
    (hSafe : ∀ X Y k, Turn w.heap.size X Y → Safe X k → Safe Y k)
    (hI : ∀ pre X Y, I pre X → Turn w.heap.size X Y → I pre Y ∧ ∀ k, X.heap.size ≤ k → Safe Y k)
    (hIx : ∀ c pre X Y, Ix c pre X → Turn w.heap.size X Y → Ix c pre Y)
    (h0 : I [] w)
    (hbody : ∀ (l : Nat) (pre : List (Value × Nd)) (m : Nd) (da : Option Addr) (dc : Nat) (aa : Option Addr) (ac bl : Nat) (W : World), w.heap.size ≤ l → (∃ r, W.heap[l]? = some (.loop r)) →
      Sp (pre ++ [(.agg (ndC m (.slice da m.data.length dc) (.slice aa m.acl.length ac)), m)]) → I pre W → GS Safe (.agg (ndC m (.slice da m.data.length dc) (.slice aa m.acl.length ac)), m) W →
      W.heap[bl]? = some (.cells (ndC m (.slice da m.data.length dc) (.slice aa m.acl.length ac)) 37 (0, 0)) →
      body.wpIn (Fence.wide.inRound l) (n - 1 - 1) Tryd.prog (tellPost w.heap.size (KeepS Safe) I Ix (pre ++ [(.agg (ndC m (.slice da m.data.length dc) (.slice aa m.acl.length ac)), m)]) W)
        { tmps := (a.tmps.setIfInBounds p (.agg (ndC m (.slice da m.data.length dc) (.slice aa m.acl.length ac)))).setIfInBounds b (.pointer (some ⟨bl, 0, none⟩)), defers := [] } W)
    (hdone : ∀ (D : Nat) (xs : List (Value × Nd)) (W : World), w.heap.size ≤ D → S xs → I xs W → W.heap[D]? = some (.deferred (some [])) → Q .normal { a with defers := { target := .collected D, args := #[] } :: a.defers } W)
    (hstop : ∀ (D : Nat) (c : Code) (pre : List (Value × Nd)) (W : World), w.heap.size ≤ D → Sp pre → Ix c pre W → W.heap[D]? = some (.deferred (some [])) → c.wpIn Fence.wide n Tryd.prog Q { a with defers := { target := .collected D, args := #[] } :: a.defers } W) :
    (Code.rangeFunc g #[p] (Code.region id #[{ dst := some b, op := Op.alloc 37, type := 0, pos := pos, after := #[], guard := none }, { dst := none, op := Op.store 37 (Operand.tmp b) (Operand.tmp p), type := 0, pos := pos, after := aft, guard := none }] false) body).wpIn Fence.wide n Tryd.prog Q a w := by
  refine wpIn_tells rfl h1 hg trivial eg hseq (fun _ => rfl) I Ix (AggA a.tmps p b) ?hKeep ?hI hIx ?hG ?hAx h0 ?assign ?body hdone hstop
  case hKeep =>
    intro A X Y Z h hk h2
    exact ⟨Nat.le_trans h.size (Nat.le_trans hk.1 h2.size), fun k c e f hc hs => by
      obtain ⟨h3, h4⟩ := hk.2 k c e f (h.cells hc) (hSafe _ _ _ h hs)
      exact ⟨h2.cells h3, hSafe _ _ _ h2 h4⟩⟩
  case hI => exact fun pre X Y h hT => ⟨(hI pre X Y h hT).1, fun k hk => hSafe _ _ _ hT hk, (hI pre X Y h hT).2⟩
  case hG => exact fun x X Y h hT => NdS.imp h (fun k hk => ⟨hSafe _ _ _ hT hk.1, Nat.lt_of_lt_of_le hk.2 hT.size⟩) fun _ _ _ _ hu => hT.cell hu
  case hAx =>
    rintro x a' X Y ⟨bl, da, dc, aa, ac, e1, e2, e3⟩ hT
    exact ⟨bl, da, dc, aa, ac, e1, hT.cells e2, e3⟩
  case assign =>
    rintro l pre ⟨xv, m⟩ W K hIp hG hK
    obtain ⟨da, dc, aa, ac, e, _⟩ := hG
    dsimp only at e
    subst e
    have hfr : ∀ v : Value, (#[p].zip #[v]).foldl (fun (t : Array Value) (x : Tmp × Value) => match x with | (p, v) => t.setIfInBounds p v) a.tmps = a.tmps.setIfInBounds p v := fun v => by simp
    refine wpIn_region_list ?_
    rw [hfr]
    show wpListIn _ _ _ _ _ [_, _] { tmps := a.tmps.setIfInBounds p (.agg (ndC m (.slice da m.data.length dc) (.slice aa m.acl.length ac))), defers := [] } W
    refine wpListIn_value (fun _ => trivial) rfl (fun c h => by cases h) (ex_alloc_nd rfl) ?_
    rw [put_frame]
    refine wpListIn_skipped (fun _ => trivial) rfl (fun c h => by cases h) (ex_store_row 37 (.tmp b) (.tmp p) rfl W.heap.size (ndC m (.slice da m.data.length dc) (.slice aa m.acl.length ac)) (eval_set_same (by simpa using hb)) (eval_set_other hp hne) 37 zeroNd (heap_alloc_new W _) sizeNd rfl (cells_node m da aa _ _ dc ac)) ?_
    rw [setRow_alloc]
    refine wpListIn_nil ?_
    refine hK _ _ (Ext.alloc _ _) ⟨W.heap.size, da, dc, aa, ac, rfl, heap_alloc_new W _, rfl⟩
  case body =>
    rintro l pre ⟨xv, m⟩ a' W hl hr hSp hIp hG ⟨bl, da, dc, aa, ac, e1, e2, rfl⟩
    dsimp only at e1
    subst e1
    exact hbody l pre m da dc aa ac bl W hl hr hSp hIp hG e2

section
variable {P : Program} {ops : Array Oper} {Q : Exit → Act → World → Prop} {Φ : Nat → Value → World → Prop} {a0 : Act} {w0 : World}
theorem duties_rel : ∀ (l : List Oper) (k : Nat), Duties P ops Q Φ a0 w0 k l → DutiesR Ext P ops Q Φ a0 w0 k l
  | [], _, _ => trivial
  | _ :: l, k, h => ⟨h.1, duties_rel l (k + 1) h.2⟩
theorem Ahead.val {vals : List Value} {o p : Oper} {a : Act} {w : World} (h : Ahead ops (fun i v _ => vals[i]? = some v) o a w) (j : Nat) (d : Tmp) (hp : ops[j]? = some p) (hd : p.dst = some d) (he : ∃ e ∈ o.after.toList, e.on = j ∧ Region.binds .any e = true) {v : Value} (hv : vals[j]? = some v) : a.eval (.tmp d) = v :=
  Option.some.inj ((h.slot j d hp hd he).symm.trans hv)
/-- A region that draws its order, each of whose operations has one value to give. -/
theorem region_vals (m : Nat) (vals : List Value) (hlen : vals.length = ops.toList.length) (hchk : (dstsOk ops && aheadB ops && (ops.toList.all fun o => o.dst.any fun d => decide (d < m))) = true) (hsz : a0.tmps.size = m)
    (hd : Duties P ops Q (fun i v _ => vals[i]? = some v) a0 w0 0 ops.toList)
    (hend : ∀ w, Ext w0 w → Q .normal (filled ops.toList vals a0) w) : RegionP P ops Q a0 w0 := by
  have hall := hchk
  simp only [Bool.and_eq_true] at hall
  refine region_rel_e m Ext Ext.refl (fun _ _ _ => Ext.trans) Ext.drew (fun i v _ => vals[i]? = some v) (fun _ _ _ _ h _ => h) (fun i v w h ho => ?_) ?_ hsz (duties_rel _ _ hd) fun us w hE hl hP => ?_
  · exfalso
    cases hoi : ops[i]? with
    | none => rw [hoi] at ho; cases ho
    | some o =>
      rw [hoi] at ho
      have := List.all_eq_true.1 hall.2 o (List.mem_of_getElem? (i := i) (by simpa using hoi))
      cases hd : o.dst with
      | none => rw [hd] at this; cases this
      | some d => simp [hd] at ho
  · simp only [Bool.and_eq_true]
    refine ⟨hall.1, List.all_eq_true.2 fun o ho => ?_⟩
    have := List.all_eq_true.1 hall.2 o ho
    cases hd : o.dst with
    | none => rfl
    | some d => rw [hd] at this; simpa using this
  · have : us = vals := List.ext_getElem? fun i => by
      by_cases hi : i < us.length
      · rw [hP i us[i] (List.getElem?_eq_getElem hi), List.getElem?_eq_getElem hi]
      · rw [List.getElem?_eq_none (by omega), List.getElem?_eq_none (by omega)]
    rw [this]
    exact hend w hE
/-- The same, but for the last operation, which all others are ahead of: it may turn what it likes. -/
theorem region_last_vals (m : Nat) (vals : List Value) (k : Nat) (ol : Oper) (hk : ops[k]? = some ol) (hks : ops.size = k + 1) (hlen : vals.length = k) (hg : ol.guard = none)
    (hchk : (dstsOk ops && aheadB ops && coverOk ops && (ops.toList.all fun o => o.dst.any fun d => decide (d < m))) = true) (hsz : a0.tmps.size = m)
    (hd : Duties P ops Q (fun i v _ => vals[i]? = some v) a0 w0 0 (ops.toList.take k))
    (hlast : ∀ a u w, Ext w0 w → a = filled ops.toList (vals ++ [u]) a0 → (∀ i d v, i < k → (ops[i]?.bind (·.dst)) = some d → vals[i]? = some v → a.eval (.tmp d) = v) → ol.wp P a w (fun a' w' => Q .normal a' w') Q) : RegionP P ops Q a0 w0 := by
  have hall := hchk
  simp only [Bool.and_eq_true] at hall
  refine region_last m (fun i v _ => vals[i]? = some v) (fun _ _ _ _ h _ => h) ?_ hsz k ol hk hks hg hd fun a w hE hF hP => ?_
  · simp only [Bool.and_eq_true]
    exact ⟨hall.1, List.all_eq_true.2 fun o ho => List.all_eq_true.1 hall.2 o (List.mem_of_mem_take ho)⟩
  have hin : ∀ o ∈ ops.toList, ∀ d, o.dst = some d → d < a0.tmps.size := fun o ho d hd => by
    have := List.all_eq_true.1 hall.2 o ho
    rw [hd] at this
    rw [hsz]; simpa using this
  have hfr := framed_filled hF ops.toList (fun _ h => h) (fun _ h => .inl h) hin
  have hl' : (ops.toList.map fun o => valOf o a).length = k + 1 := by simpa using hks
  refine hlast a (valOf ol a) w hE ?_ fun i d v hi hd hv => ?_
  · have : (ops.toList.map fun o => valOf o a) = vals ++ [valOf ol a] := List.ext_getElem? fun i => by
      by_cases hi : i < k
      · rw [List.getElem?_append_left (by omega)]
        have ho : ops[i]? = some (ops[i]'(by omega)) := Array.getElem?_eq_getElem (by omega)
        rw [hP i _ hi ho, List.getElem?_map]
        simp [ho]
      · by_cases hi2 : i = k
        · subst hi2
          rw [List.getElem?_append_right (by omega), hlen, Nat.sub_self, List.getElem?_map]
          simp [hk]
        · rw [List.getElem?_eq_none (by omega), List.getElem?_eq_none (by simp; omega)]
    rw [← this]
    exact hfr
  · cases ho : ops[i]? with
    | none => rw [ho] at hd; cases hd
    | some o =>
      rw [ho] at hd
      have := hP i o hi ho
      rw [hv] at this
      have hd' : o.dst = some d := hd
      unfold valOf at this
      rw [hd'] at this
      exact (Option.some.inj this).symm
end
end Go.Proofs.YtfgjbcejpjcpeaaDoor
