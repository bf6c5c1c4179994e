/- Small laws for the duties of a region that draws its order. -/
import Derived.Test.YtfgjbcejpjcpeaaDoorReg
namespace Go.Proofs.YtfgjbcejpjcpeaaDoor
open Go.RowKit
variable {P : Program} {ops : Array Oper} {Q : Exit → Act → World → Prop} {Φ : Nat → Value → World → Prop} {a0 : Act} {w0 : World}

theorem wp_value {o : Oper} {a : Act} {w w' : World} {K : Act → World → Prop} {v : Value} (h : (execOp a.eval o).run P w = .ok (.value v) w') (hk : K (a.put o.dst v) w') : o.wp P a w K Q := by
  unfold Oper.wp; rw [h]; exact hk
theorem wp_enter {o : Oper} {a : Act} {w : World} {K : Act → World → Prop} {f : FuncId} {args : Array Value} {R : Ending → World → Prop} (h : (execOp a.eval o).run P w = .ok (.enter f args) w) (hc : Calls P f args w R)
    (hR : ∀ e w', R e w' → ∃ v, e = .returned v ∧ K (a.put o.dst v) w') : o.wp P a w K Q := by
  unfold Oper.wp; rw [h]
  refine hc.mono fun e w' hr => ?_
  obtain ⟨v, rfl, hk⟩ := hR e w' hr
  exact hk

/-- An operation without a guard. -/
theorem duty_free {i : Nat} {o : Oper} (hg : o.guard = none) (h : ∀ a w, Ext w0 w → Framed ops a0 a → Ahead ops Φ o a w → o.wp P a w (fun a' w' => ∃ v, a' = a.put o.dst v ∧ Φ i v w' ∧ Ext w w') Q) : Duty P ops Q Φ a0 w0 i o := by
  intro a w hE hF hA
  have : Region.wanted o (yielded ops a.tmps) = true := by unfold Region.wanted; rw [hg]
  rw [if_pos this]
  exact h a w hE hF hA

/-- An operation whose guard says yes. -/
theorem duty_yes {i j : Nat} {b : Bool} {o p : Oper} {d : Tmp} (hg : o.guard = some (j, b)) (hp : ops[j]? = some p) (hd : p.dst = some d) (hin : d < a0.tmps.size) (he : ∃ e ∈ o.after.toList, e.on = j ∧ Region.binds .any e = true)
    (hv : ∀ v w, Φ j v w → v = .bool b) (h : ∀ a w, Ext w0 w → Framed ops a0 a → Ahead ops Φ o a w → o.wp P a w (fun a' w' => ∃ v, a' = a.put o.dst v ∧ Φ i v w' ∧ Ext w w') Q) : Duty P ops Q Φ a0 w0 i o := by
  intro a w hE hF hA
  obtain ⟨e, hem, rfl, heb⟩ := he
  have hval := hv _ _ (hA e hem heb p hp)
  have : Region.wanted o (yielded ops a.tmps) = true := by
    unfold Region.wanted
    rw [hg]
    have hlt : d < a.tmps.size := by rw [hF.2.1]; exact hin
    unfold valOf at hval
    rw [hd] at hval
    simp only [Array.getD_eq_getD_getElem?, Array.getElem?_eq_getElem hlt, Option.getD_some] at hval
    simp [yielded, hp, hd, Array.getElem?_eq_getElem hlt, hval]
  rw [if_pos this]
  exact h a w hE hF hA

/-- What an operation with a slot has left there. -/
theorem Ahead.slot {o p : Oper} {a : Act} {w : World} (h : Ahead ops Φ o a w) (j : Nat) (d : Tmp) (hp : ops[j]? = some p) (hd : p.dst = some d) (he : ∃ e ∈ o.after.toList, e.on = j ∧ Region.binds .any e = true) : Φ j (a.eval (.tmp d)) w := by
  obtain ⟨e, hem, rfl, heb⟩ := he
  have := h e hem heb p hp
  unfold valOf at this
  rw [hd] at this
  exact this

/-- A slot that no operation writes. -/
theorem Framed.slot {a : Act} (h : Framed ops a0 a) (t : Tmp) (v : Value) (ht : (ops.toList.all fun o => o.dst != some t) = true) (hv : a0.tmps.getD t undef = v) : a.eval (.tmp t) = v := by
  have := h.2.2 t (fun o ho e => by have := List.all_eq_true.1 ht o ho; rw [e] at this; simp at this)
  exact this.trans hv

theorem ex_move {o : Oper} {a : Act} {w : World} {x : Operand} (ho : o.op = .move x) : (execOp a.eval o).run P w = .ok (.value (a.eval x)) w := by simp [execOp, ho]
theorem ex_assign {o : Oper} {a : Act} {w : World} {x : Operand} (ho : o.op = .assign x) : (execOp a.eval o).run P w = .ok (.value (a.eval x)) w := by simp [execOp, ho]
theorem ex_pick {o : Oper} {a : Act} {w : World} {c x y : Operand} {b : Bool} (ho : o.op = .pick c x y) (hc : a.eval c = .bool b) : (execOp a.eval o).run P w = .ok (.value (if b then a.eval x else a.eval y)) w := by
  cases b <;> simp [execOp, ho, hc, asBool]
theorem ex_call {o : Oper} {a : Act} {w : World} {f : FuncId} {args : Array Operand} {ts : Array TypeId} (ho : o.op = .call { callee := .value (.func f), args := args, argTypes := ts })
    (hen : ∀ args w, (callFunc f args).run P w = .ok (.enter f args) w) : (execOp a.eval o).run P w = .ok (.enter f (args.map a.eval)) w := by
  simp [execOp, ho, resolve, invoke, Act.eval, hen, Deferred.ofValue]

/-- The law, its looks at the text as checks. -/
theorem wp_region_e {id : Nat} (m : Nat) (hm : P.follows .mixedOrders = true) (Φ : Nat → Value → World → Prop)
    (hstab : ∀ i v w w', Φ i v w → Ext w w' → Φ i v w') (hchk : (dstsOk ops && aheadOk ops && (ops.toList.all fun o => o.dst.any fun d => decide (d < m))) = true) (hsz : a0.tmps.size = m)
    (hd : Duties P ops Q Φ a0 w0 0 ops.toList)
    (hend : ∀ a w, Ext w0 w → Framed ops a0 a → (∀ i o, ops[i]? = some o → Φ i (valOf o a) w) → Q .normal a w) :
    (Code.region id ops true).wp P Q a0 w0 := by
  simp only [Bool.and_eq_true] at hchk
  obtain ⟨⟨h1, h2⟩, h3⟩ := hchk
  refine wp_region_ext hm Φ hstab h1 h2 (fun o ho d hdd => ?_) (fun i o v w ho hdd _ => ?_) hd hend
  · have := List.all_eq_true.1 h3 o ho
    rw [hdd] at this
    rw [hsz]
    simpa using this
  · have := List.all_eq_true.1 h3 o (by simpa using Array.mem_of_getElem? ho)
    rw [hdd] at this
    cases this
theorem Cells.ext {w w' : World} {a : Option Addr} {xs : List Value} (h : Cells w.heap.size w a xs) (he : Ext w w') : Cells w'.heap.size w' a xs := (h.below he).mono he.size
theorem ex_append {P : Program} {o : Oper} {a : Act} {w w' : World} {s x : Operand} {t tx : TypeId} {v : Value} (ho : o.op = .call { callee := .builtin .append, args := #[s, x], argTypes := #[t, tx] })
    (h : (Builtin.append_ #[t, tx] o.type #[a.eval s, a.eval x]).run P w = .ok v w') : (execOp a.eval o).run P w = .ok (.value v) w' := by
  unfold execOp
  simp only [ho, resolve, invoke, builtin, Sem.run_bind, Sem.run_pure, Result.andThen_ok, List.map_toArray, List.map_cons, List.map_nil, h]

theorem ex_load_row {P : Program} {o : Oper} {a : Act} {w : World} {ty : TypeId} {x : Operand} (ho : o.op = .load ty x) (g : Nat) (hx : a.eval x = .pointer (some ⟨g, 0, none⟩)) (t : TypeId) (cs : Array Value) (fr : Nat × Nat) (d : TypeDesc) (hg : w.heap[g]? = some (.cells cs t fr))
    (hu : P.underlying ty = some d) (hd : (match d with | .struct _ | .array _ _ => true | _ => false) = true) (hi : (P.info? ty).map (·.size) = some cs.size) : (execOp a.eval o).run P w = .ok (.value (.agg cs)) w := by
  unfold execOp
  simp only [ho, hx, Instr.loadAt, Instr.sureAddr, Sem.run_bind, Sem.run_pure, Result.andThen_ok, run_loadVar_row w g t ty cs fr d hg hu hd hi]
end Go.Proofs.YtfgjbcejpjcpeaaDoor
