/- A region that draws its order, its operations turning memory and making values: an invariant that knows which of them are done, and what they yielded. The walk of arborref07's Take. The walks of arborref03's last and Parent. The walks of the reference of stat.Right, and of its look at UTF-8. The walk of the reference of stat.Right. The walk of arborref07.From. The walk of stat.Of. A region that draws its order, its operations turning memory: an invariant that knows which of them are done. -/
import Derived.Test.YthinpbdbhijbgaaGreatDoorJTreePlays8
import Derived.Great.BuildSlice
import Derived.Test.YthinpbdbhijbgaaGreatDoorJTreePlays6
import Derived.Test.YthinpbdbhijbgaaGreatDoorJTreePlays4
import Derived.Test.YthinpbdbhijbgaaGreatDoorJTreePlays2
import Derived.Test.YthinpbdbhijbgaaGreatDoorJTreePlays5
namespace Go.Proofs.YthinpbdbhijbgaaGreatDoor
open Go.RowKit
section
variable {P : Program} {ops : Array Oper} {Q : Exit → Act → World → Prop} {a0 : Act} {w0 : World}

/-- What the operations yielded. -/
def valsOf (ops : Array Oper) (a : Act) (k : Nat) : Value := match ops[k]? with
  | some o => valOf o a
  | none => undef
def updV (vals : Nat → Value) (i : Nat) (v : Value) (k : Nat) : Value := if k = i then v else vals k
theorem updV_same (vals : Nat → Value) (i : Nat) (v : Value) : updV vals i v i = v := by unfold updV; rw [if_pos rfl]
theorem updV_other (vals : Nat → Value) {i k : Nat} (v : Value) (h : k ≠ i) : updV vals i v k = vals k := by unfold updV; rw [if_neg h]
theorem valsOf_eval {a : Act} (j : Nat) (d : Tmp) {p : Oper} (hp : ops[j]? = some p) (hd : p.dst = some d) : a.eval (.tmp d) = valsOf ops a j := by
  unfold valsOf
  rw [hp]
  show _ = valOf p a
  unfold valOf
  rw [hd]
  simp [Act.eval]

/-- An operation's duty; d: which are done. -/
def DutyG (P : Program) (ops : Array Oper) (Q : Exit → Act → World → Prop) (G : (Nat → Bool) → (Nat → Value) → World → Prop) (a0 : Act) (i : Nat) (o : Oper) : Prop :=
  ∀ (d : Nat → Bool) a w, d i = false → (∀ f k j, reachB ops f k j = true → d k = true → d j = true) → (∀ e ∈ o.after.toList, Region.binds .any e = true → d e.on = true) → G d (valsOf ops a) w → Framed ops a0 a →
    o.wp P a w (fun a' w' => ∃ v, a' = a.put o.dst v ∧ G (fun k => d k || k == i) (updV (valsOf ops a) i (if o.dst.isSome = true then v else undef)) w') Q
def DutiesG (P : Program) (ops : Array Oper) (Q : Exit → Act → World → Prop) (G : (Nat → Bool) → (Nat → Value) → World → Prop) (a0 : Act) : Nat → List Oper → Prop
  | _, [] => True
  | i, o :: l => DutyG P ops Q G a0 i o ∧ DutiesG P ops Q G a0 (i + 1) l
theorem DutiesG.at {G : (Nat → Bool) → (Nat → Value) → World → Prop} : ∀ {l : List Oper} {k : Nat}, DutiesG P ops Q G a0 k l → ∀ i o, l[i]? = some o → DutyG P ops Q G a0 (k + i) o
  | [], _, _, i, o, h => by simp at h
  | q :: l, k, hd, 0, o, h => by simp at h; subst h; exact hd.1
  | q :: l, k, hd, i + 1, o, h => by
    have := DutiesG.at (k := k + 1) hd.2 i o (by simpa using h)
    rwa [show k + 1 + i = k + (i + 1) from by omega] at this

theorem region_gen (m : Nat) (G : (Nat → Bool) → (Nat → Value) → World → Prop) (hG0 : ∀ vals, G (fun _ => false) vals w0.drew)
    (hchk : (dstsOk ops && aheadB ops && (ops.toList.all fun o => o.guard.isNone && o.dst.all fun d => decide (d < m))) = true) (hsz : a0.tmps.size = m)
    (hd : DutiesG P ops Q G a0 0 ops.toList)
    (hend : ∀ us d w, (∀ i, i < ops.size → d i = true) → us.length = ops.toList.length → G d (fun k => us.getD k undef) w → Q .normal (filled ops.toList us a0) w) :
    RegionP P ops Q a0 w0 := by
  simp only [Bool.and_eq_true] at hchk
  obtain ⟨⟨hdst, hacy⟩, hall⟩ := hchk
  have hin : ∀ o ∈ ops.toList, ∀ d, o.dst = some d → d < a0.tmps.size := fun o ho d hd => by
    have := List.all_eq_true.1 hall o ho
    simp only [Bool.and_eq_true] at this
    have h2 := this.2
    rw [hd] at h2
    rw [hsz]; simpa using h2
  have hng : ∀ o ∈ ops.toList, o.guard = none := fun o ho => by
    have := List.all_eq_true.1 hall o ho
    simp only [Bool.and_eq_true] at this
    simpa using this.1
  have hdn : (ops.toList.filterMap (·.dst)).Nodup := by simpa [dstsOk] using hdst
  unfold RegionP
  refine wpAny_inv (fun l a w => l.size = ops.size ∧ G (fun k => l.getD k false) (valsOf ops a) w ∧ Framed ops a0 a ∧ Closed ops l) (fun _ _ _ h => h.1) ?_ ?_ _ _ _ _ ?_ ?_
  · rintro l a w i ⟨hs, hE, hF, hC⟩ hi
    obtain ⟨hlt, hu, hpre⟩ := (ready_iff hs).1 hi
    have ho : ops[i]? = some ops[i] := Array.getElem?_eq_getElem hlt
    have hol : ops.toList[i]? = some ops[i] := by simp
    have hmem : ops[i] ∈ ops.toList := by simp
    have hduty := hd.at i ops[i] hol
    rw [Nat.zero_add] at hduty
    have hgo := hduty (fun k => l.getD k false) a w hu (fun f k j h hk => hC.reach f k j h hk) (fun e he hb => hpre e he hb) hE hF
    unfold wpOpP
    rw [ho]
    simp only []
    rw [if_pos (by unfold Region.wanted; rw [hng _ hmem])]
    refine Oper.wp_mono (fun a' w' h => ?_) hgo
    obtain ⟨v, rfl, hG'⟩ := h
    have hgp : (fun k => (l.setIfInBounds i true).getD k false) = fun k => l.getD k false || k == i := by
      funext k
      by_cases e : k = i
      · subst e
        rw [getD_set_same (by omega)]; simp
      · rw [getD_set_other e]
        have : (k == i) = false := by simpa using e
        rw [this, Bool.or_false]
    have hvp : valsOf ops (a.put ops[i].dst v) = updV (valsOf ops a) i (if ops[i].dst.isSome = true then v else undef) := by
      funext k
      by_cases e : k = i
      · subst e
        rw [updV_same]
        unfold valsOf
        rw [ho]
        show valOf ops[k] _ = _
        cases hq : ops[k].dst with
        | none => unfold valOf; rw [hq]; rfl
        | some t =>
          rw [← hq, valOf_put_same (fun d hd => by rw [hF.2.1]; exact hin _ hmem d hd) (fun h => by rw [hq] at h; cases h), hq]
          rfl
      · rw [updV_other _ _ e]
        unfold valsOf
        cases hk : ops[k]? with
        | none => rfl
        | some o =>
          exact valOf_put_other fun d hd h => e (dst_inj ops.toList hdn k i o ops[i] d (by simpa using hk) hol hd h)
    refine ⟨by simpa using hs, by rw [hgp, hvp]; exact hG', framed_put hF hmem v, fun j o hj hlj e he hb => ?_⟩
    by_cases hei : e.on = i
    · rw [hei]; exact getD_set_same (by omega)
    · rw [getD_set_other hei]
      by_cases hji : j = i
      · subst hji
        rw [ho] at hj
        obtain rfl := Option.some.inj hj
        exact hpre e he hb
      · rw [getD_set_other hji] at hlj
        exact hC j o hj hlj e he hb
  · rintro l a w ⟨hs, hE, hF, _⟩ hr
    have hdone : ∀ i, i < ops.size → l.getD i false = true := fun i hi => ready_none hs hacy hr (i + 1) i (by omega) hi
    rw [framed_filled hF ops.toList (fun _ h => h) (fun _ h => .inl h) hin]
    refine hend _ _ w hdone (by simp) ?_
    have : (fun k => (ops.toList.map fun o => valOf o a).getD k undef) = valsOf ops a := by
      funext k
      unfold valsOf
      rw [List.getD_eq_getElem?_getD, List.getElem?_map, Array.getElem?_toList]
      cases ops[k]? <;> rfl
    rw [this]
    exact hE
  · have hf : ∀ i, (Array.replicate ops.size false).getD i false = false := fun i => by
      rw [Array.getD_eq_getD_getElem?, Array.getElem?_replicate]; split <;> rfl
    refine ⟨by simp, by simp only [hf]; exact hG0 _, ⟨rfl, rfl, fun _ _ => rfl⟩, ?_⟩
    intro i o _ h
    rw [hf] at h; cases h
  · unfold unlisted
    exact Nat.le_trans (List.count_le_length) (by simp)

/-- What the operations of a list with values told in advance yielded. -/
def ToldV (cs : List (Option Value)) (d : Nat → Bool) (vals : Nat → Value) : Prop := ∀ j v, cs[j]? = some (some v) → d j = true → vals j = v
theorem ToldV.none (cs : List (Option Value)) (vals : Nat → Value) : ToldV cs (fun _ => false) vals := fun _ _ _ h => by cases h
theorem ToldV.put {cs : List (Option Value)} {d : Nat → Bool} {vals : Nat → Value} (h : ToldV cs d vals) (i : Nat) (v : Value) (hv : ∀ u, cs[i]? = some (some u) → v = u) : ToldV cs (fun k => d k || k == i) (updV vals i v) := fun j u hj hd => by
  by_cases e : j = i
  · subst e; rw [updV_same]; exact hv u hj
  · have : (j == i) = false := by simpa using e
    simp only [this, Bool.or_false] at hd
    rw [updV_other _ _ e]
    exact h j u hj hd
end
end Go.Proofs.YthinpbdbhijbgaaGreatDoor
namespace Go.Proofs.YthinpbdbhijbgaaGreatDoor
open Go.RowKit
set_option maxHeartbeats 4000000
set_option maxRecDepth 100000

section
variable {P : Program} {ops : Array Oper} {Q : Exit → Act → World → Prop} {a0 : Act}
/-- An operation that only reads, whose value is told in advance. -/
theorem dutyG_val {cs : List (Option Value)} {H : (Nat → Bool) → (Nat → Value) → World → Prop} {i : Nat} {o : Oper} {v : Value} (hv : cs[i]? = some (some v)) (hds : o.dst.isSome = true)
    (hH : ∀ d vals W W', d i = false → (∀ f k j, reachB ops f k j = true → d k = true → d j = true) → H d vals W → Ext W W' → H (fun k => d k || k == i) (updV vals i v) W')
    (h : ∀ d a W, d i = false → (∀ f k j, reachB ops f k j = true → d k = true → d j = true) → H d (valsOf ops a) W → (∀ j t p u, ops[j]? = some p → p.dst = some t → (∃ e ∈ o.after.toList, e.on = j ∧ Region.binds .any e = true) → cs[j]? = some (some u) → a.eval (.tmp t) = u) → Framed ops a0 a →
      o.wp P a W (fun a' W' => a' = a.put o.dst v ∧ Ext W W') Q) : DutyG P ops Q (fun d vals w => ToldV cs d vals ∧ H d vals w) a0 i o := by
  intro d a W hdi hcl hpre hG hF
  refine Oper.wp_mono (fun a' W' hh => ?_) (h d a W hdi hcl hG.2 (fun j t p u hp hd he hu => ?_) hF)
  · obtain ⟨rfl, hE⟩ := hh
    refine ⟨v, rfl, ?_⟩
    rw [if_pos hds]
    exact ⟨hG.1.put i v fun u hu => by rw [hv] at hu; exact Option.some.inj (Option.some.inj hu), hH d _ W W' hdi hcl hG.2 hE⟩
  · obtain ⟨e, hem, rfl, heb⟩ := he
    rw [valsOf_eval e.on t hp hd]
    exact hG.1 _ _ hu (hpre e hem heb)
end

theorem told_eval {cs : List (Option Value)} {ops : Array Oper} {a : Act} {d : Nat → Bool} (_ : ToldV cs d (valsOf ops a)) (j : Nat) (t : Tmp) {p : Oper} (hp : ops[j]? = some p) (hd : p.dst = some t) : a.eval (.tmp t) = valsOf ops a j := valsOf_eval j t hp hd
/-- What holds while Take goes on; d: which operations are done. -/
def TkH (w : World) (i r : Nat) (x1 x2 : List Value) (Fin : World → Prop) (d : Nat → Bool) (vals : Nat → Value) (W : World) : Prop :=
  if d 19 = true then Fin W else Ext w W ∧ (if d 16 = true then W.ownsRow w.heap.size 44 17 (vals 16) (i + r) (x1 ++ x2) else if d 8 = true then W.ownsRow w.heap.size 44 17 (vals 8) i x1 else if d 1 = true then W.ownsRow w.heap.size 44 17 (vals 1) 0 [] else True)
theorem TkH.read {w : World} {i r : Nat} {x1 x2 : List Value} {Fin : World → Prop} {d : Nat → Bool} {vals : Nat → Value} {W W' : World} {j : Nat} {v : Value} (h : TkH w i r x1 x2 Fin d vals W) (h19 : d 19 = false) (hE : Ext W W') (hj : (j != 19 && j != 16 && j != 8 && j != 1) = true) : TkH w i r x1 x2 Fin (fun k => d k || k == j) (updV vals j v) W' := by
  simp only [Bool.and_eq_true, bne_iff_ne, ne_eq] at hj
  obtain ⟨⟨⟨j1, j2⟩, j3⟩, j4⟩ := hj
  have e19 : (d 19 || (19 : Nat) == j) = false := by rw [h19, Bool.false_or]; simpa using fun e => j1 e.symm
  have e16 : (d 16 || (16 : Nat) == j) = d 16 := by rw [show ((16 : Nat) == j) = false by simpa using fun e => j2 e.symm, Bool.or_false]
  have e8 : (d 8 || (8 : Nat) == j) = d 8 := by rw [show ((8 : Nat) == j) = false by simpa using fun e => j3 e.symm, Bool.or_false]
  have e1 : (d 1 || (1 : Nat) == j) = d 1 := by rw [show ((1 : Nat) == j) = false by simpa using fun e => j4 e.symm, Bool.or_false]
  unfold TkH at h ⊢
  simp only [h19, Bool.false_eq_true, if_false] at h
  simp only [e19, e16, e8, e1, Bool.false_eq_true, if_false]
  rw [updV_other _ _ (fun e => j2 e.symm), updV_other _ _ (fun e => j3 e.symm), updV_other _ _ (fun e => j4 e.symm)]
  refine ⟨h.1.trans hE, ?_⟩
  have hk : ∀ (v : Value) (n : Nat) (xs : List Value), W.ownsRow w.heap.size 44 17 v n xs → W'.ownsRow w.heap.size 44 17 v n xs := fun v n xs hx => World.ownsRow.kept hx (grown_of_ext hE none) (Classical.em _)
  have h2 := h.2
  split
  · rename_i e; rw [if_pos e] at h2; exact hk _ _ _ h2
  · rename_i e; rw [if_neg e] at h2
    split
    · rename_i e; rw [if_pos e] at h2; exact hk _ _ _ h2
    · rename_i e; rw [if_neg e] at h2
      split
      · rename_i e; rw [if_pos e] at h2; exact hk _ _ _ h2
      · trivial

theorem TkH.ext {w : World} {i r : Nat} {x1 x2 : List Value} {Fin : World → Prop} {d : Nat → Bool} {vals : Nat → Value} {W : World} (h : TkH w i r x1 x2 Fin d vals W) (h19 : d 19 = false) : Ext w W := by
  unfold TkH at h
  simp only [h19, Bool.false_eq_true, if_false] at h
  exact h.1
theorem ext_grownT {w W W' : World} {e : TypeId} {size n : Nat} {v : Value} {xs : List Value} (hE : Ext w W) (hg : W.grownBy W' v.ownBlock) (hown : W.ownsRow w.heap.size e size v n xs) : Ext w W' :=
  hE.trans' ⟨hg.os, hg.tape, hg.output, hg.size, fun k hk => hg.block k (Nat.lt_of_lt_of_le hk hE.size) (fun e => by have := (hown.lt k e.symm).1; omega)⟩
theorem ex_buildSlice0 {P : Program} {o : Oper} {a : Act} {W : World} {t e : TypeId} (ho : o.op = .buildSlice t 0 #[]) (hu : P.underlying t = some (.slice e)) {ie : TypeInfo} (hie : P.info? e = some ie) : (execOp a.eval o).run P W = .ok (.value (.slice (some ⟨W.heap.size, 0, none⟩) 0 0)) (W.alloc (.cells #[] e)) := by
  unfold execOp
  simp only [ho, Sem.run_bind]
  simp [Instr.buildSlice, run_underlying hu, sizeOf, typeInfo, hie, Instr.fill, newRow]
  congr 2
  apply Array.eq_empty_of_size_eq_zero
  simp
theorem filled_defers (l : List Oper) (us : List Value) (a0 : Act) : (filled l us a0).defers = a0.defers := by
  unfold filled
  generalize l.zip us = z
  induction z generalizing a0 with
  | nil => rfl
  | cons x r ih => rw [List.foldl_cons, ih, put_defers]

set_option maxHeartbeats 8000000 in
theorem rtake_s (S : Nat → Prop) (w : World) (b : Nat) (L : List Nd) (i : Nat) (hi : i < L.length) (hR : RTree S w b L) (hl : L.length * 168 ≤ 140737488355328) :
    Calls Tryz.prog 144 #[.pointer (some ⟨b, 0, none⟩), .int .i64 i] w fun e w' => e = .returned (.tuple #[]) ∧ RTree (fun k => S k ∨ (w.heap.size ≤ k ∧ k < w'.heap.size)) w' b (L.take i ++ L.drop (i + 1)) ∧ Chg (· = b) w w' := by
  have hbl := hR.lt
  obtain ⟨a, cap, vs, hb, hlc, hcm, hS, hrows, hpl⟩ := hR
  have hc0 : w.cell? ⟨b, 0, none⟩ = some (.slice a L.length cap) := cell_of_row _ _ _ _ _ _ hb
  obtain ⟨bl, off, rfl⟩ : ∃ bl off, a = some ⟨bl, off, none⟩ := by
    rcases hpl with ⟨_, h0⟩ | ⟨bl, off, h⟩
    · omega
    · exact ⟨bl, off, h⟩
  have hsl1 := fun W => run_slice_to (some ⟨bl, off, none⟩) L.length cap i (fun p hp => ⟨bl, off, (Option.some.inj hp).symm⟩) (by omega) W
  have hsl2 := fun W => run_slice_from bl off L.length cap (i + 1) (by omega) hlc W
  obtain ⟨v3, hv3⟩ : ∃ v3, v3 = Value.slice (some (if cap = i + 1 then ⟨bl, off, none⟩ else ⟨bl, off + (i + 1) * 17, none⟩)) (L.length - (i + 1)) (cap - (i + 1)) := ⟨_, rfl⟩
  simp only [← hv3] at hsl2
  have hrE : ∀ W, Ext w W → RowsOf S W (some ⟨bl, off, none⟩) vs L := fun W hE => hrows.imp (fun _ h => h) fun k hk => hE.block k (hS k hk).1
  have hSW : ∀ W, Ext w W → ∀ k, S k → k < W.heap.size := fun W hE k hk => Nat.lt_of_lt_of_le (hS k hk).1 hE.size
  have hsrc1 : ∀ W, Ext w W → Src Tryz.prog 17 50 (.slice (some ⟨bl, off, none⟩) i cap) i ((vs.take i).flatMap Array.toList) W := fun W hE => (hrE W hE).src_to (by omega) (hSW W hE)
  have hsrc2 : ∀ W, Ext w W → Src Tryz.prog 17 50 v3 (L.length - (i + 1)) ((vs.drop (i + 1)).flatMap Array.toList) W := fun W hE => by
    rw [hv3]
    exact (hrE W hE).src_from (by omega) hlc (hSW W hE)
  obtain ⟨Fin, hFin⟩ : ∃ Fin : World → Prop, Fin = fun W => RTree (fun k => S k ∨ (w.heap.size ≤ k ∧ k < W.heap.size)) W b (L.take i ++ L.drop (i + 1)) ∧ Chg (· = b) w W := ⟨_, rfl⟩
  have hstore : ∀ (W : World) (v : Value), Ext w W → W.ownsRow w.heap.size 44 17 v (i + (L.length - (i + 1))) ((vs.take i).flatMap Array.toList ++ (vs.drop (i + 1)).flatMap Array.toList) → v.oneCell' = true ∧ Fin (W.setRow b #[v]) := fun W v hE hown => by
    have heach : EachN (fun k => S k ∨ (w.heap.size ≤ k ∧ k < W.heap.size)) W (vs.take i ++ vs.drop (i + 1)) (L.take i ++ L.drop (i + 1)) := by
      have h0 : RowsOf (fun k => S k ∨ (w.heap.size ≤ k ∧ k < W.heap.size)) W (some ⟨bl, off, none⟩) vs L := (hrE W hE).imp (fun _ h => .inl h) fun _ _ => rfl
      exact EachN.append (EachN.take ⟨h0.len, h0.each⟩ i) (EachN.drop ⟨h0.len, h0.each⟩ (i + 1))
    rw [← List.flatMap_append] at hown
    have hln : i + (L.length - (i + 1)) = (L.take i ++ L.drop (i + 1)).length := by simp; omega
    obtain ⟨a9, c9, rfl, hc9, hm9, hr9, hp9⟩ := RowsOf.of_own hown hln heach.1 (fun k h1 h2 => .inr ⟨h1, h2⟩) heach.2
    have hbW : W.heap[b]? = some (.cells #[.slice (some ⟨bl, off, none⟩) L.length cap] 53 (0, 0)) := (hE.block b hbl).trans hb
    have hb9 := setRow_heap W b _ #[.slice a9 (i + (L.length - (i + 1))) c9] _ _ hbW
    have hs9 : (W.setRow b #[Value.slice a9 (i + (L.length - (i + 1))) c9]).heap.size = W.heap.size := by simp [World.setRow]
    have hb' : ∀ k, (S k ∨ (w.heap.size ≤ k ∧ k < W.heap.size)) → k < W.heap.size ∧ k ≠ b := fun k hk => by
      rcases hk with hk | hk
      · exact ⟨hSW W hE k hk, (hS k hk).2⟩
      · exact ⟨hk.2, by omega⟩
    refine ⟨rfl, ?_⟩
    rw [hFin]
    rw [hln] at hb9 hc9
    exact ⟨⟨a9, c9, _, by rw [hln]; exact hb9, hc9, hm9, fun k hk => by rw [hs9] at hk ⊢; exact hb' k hk, hr9.imp (fun k hk => by rw [hs9]; exact hk) (fun k hk => setRow_other _ _ _ _ (hb' k hk).2), hp9⟩, (Chg.of_ext (S := (· = b)) hE).trans (Chg.set (S := (· = b)) b W _ rfl) fun _ _ h => h⟩
  obtain ⟨i0, hinf, hz0, hz1', hz2'⟩ := info_parts infoNd
  have hat : ∀ x lo hi mx W, (Instr.sliceAt 50 x lo hi mx).run Tryz.prog W = (Instr.slice 50 x lo hi mx).run Tryz.prog W := fun x lo hi mx W => by simp [Instr.sliceAt, run_underlying Tryz.underlying50]
  have hcE : ∀ W, Ext w W → W.cell? ⟨b, 0, none⟩ = some (.slice (some ⟨bl, off, none⟩) L.length cap) := fun W hE => (hE.cell (p := ⟨b, 0, none⟩) hbl).trans hc0
  have hx1l : ((vs.take i).flatMap Array.toList).length = i * 17 := (hsrc1 w (Ext.refl _)).newsLen
  have HB := Lib.hid hb
  clear hrE hSW hrows hb hpl
  generalize (vs.take i).flatMap Array.toList = l1 at *
  generalize (vs.drop (i + 1)).flatMap Array.toList = l2 at *
  have i64 : ((i : Int) + 1) = ((i + 1 : Nat) : Int) := by omega
  go_enter Tryz.func144, Tryz.ntmps144
  refine wp_region_P (by kernel_rfl) (region_gen 23 (fun d vals W => ToldV [some (.pointer (some ⟨b, 0, none⟩)), none, some (.pointer (some ⟨b, 0, none⟩)), some (.pointer (some ⟨b, 0, none⟩)), some (.pointer (some ⟨b, 0, none⟩)), some (.slice (some ⟨bl, off, none⟩) L.length cap), some (.int .i64 i), some (.slice (some ⟨bl, off, none⟩) i cap), none, some (.pointer (some ⟨b, 0, none⟩)), some (.pointer (some ⟨b, 0, none⟩)), some (.pointer (some ⟨b, 0, none⟩)), some (.slice (some ⟨bl, off, none⟩) L.length cap), some (.int .i64 i), some (.int .i64 ((i + 1 : Nat) : Int)), some v3, none, some (.pointer (some ⟨b, 0, none⟩)), some (.pointer (some ⟨b, 0, none⟩)), none] d vals ∧ TkH w i (L.length - (i + 1)) l1 l2 Fin d vals W) ?g0 (by decide) rfl ?duties ?rest)
  case g0 => exact fun vals => ⟨ToldV.none _ _, by unfold TkH; simp only [Bool.false_eq_true, if_false]; exact ⟨Ext.drew _, trivial⟩⟩
  case rest =>
    intro us d W hdn hl hG
    have h := hG.2
    unfold TkH at h
    rw [if_pos (hdn 19 (by decide)), hFin] at h
    exact ⟨filled_defers _ _ _, _, results_none rfl _ _ _, rfl, h⟩
  case duties =>
    have H19 : ∀ (d : Nat → Bool) (j : Nat) {q : Nat}, d j = false → (d q = true → d j = true) → d q = false := fun d j q h1 h2 => by
      cases hq : d q with
      | false => rfl
      | true => rw [h2 hq] at h1; cases h1
    refine ⟨?_, ?_, ?_, ?_, ?_, ?_, ?_, ?_, ?_, ?_, ?_, ?_, ?_, ?_, ?_, ?_, ?_, ?_, ?_, ?_, trivial⟩
    · refine dutyG_val rfl rfl (fun d vals W W' hdi hcl h hE => TkH.read h (H19 d 0 hdi (fun e => hcl 2 19 0 (by kernel_rfl) e)) hE rfl) fun d a W hdi hcl hH hx hF => ?_
      have hE := TkH.ext hH (H19 d 0 hdi (fun e => hcl 2 19 0 (by kernel_rfl) e))
      have x1 := hF.slot 0 _ (by decide) rfl
      exact wp_value (w' := W) (v := .pointer (some ⟨b, 0, none⟩)) (by simp only [execOp, x1]; simp [go_sem]) ⟨rfl, Ext.refl _⟩
    · intro d a W hdi hcl hpre hG hF
      have h19 : d 19 = false := H19 d 1 hdi (fun e => hcl 2 19 1 (by kernel_rfl) e)
      have h16 : d 16 = false := H19 d 1 hdi (fun e => hcl 2 16 1 (by kernel_rfl) e)
      have h8 : d 8 = false := H19 d 1 hdi (fun e => hcl 2 8 1 (by kernel_rfl) e)
      have hE := TkH.ext hG.2 h19
      refine wp_value (ex_buildSlice0 rfl Tryz.underlying50 hinf) ⟨_, rfl, hG.1.put 1 _ (fun u hu => by cases hu), ?_⟩
      unfold TkH
      simp only [h19, h16, h8, Bool.false_or, beq_self_eq_true, Bool.or_true, if_true, (by decide : ((19 : Nat) == 1) = false), (by decide : ((16 : Nat) == 1) = false), (by decide : ((8 : Nat) == 1) = false), Bool.false_eq_true, if_false, updV_same]
      exact ⟨hE.trans (Ext.alloc _ _), World.ownsRow_made W #[] 0 hE.size (Nat.zero_le _) rfl⟩
    · refine dutyG_val rfl rfl (fun d vals W W' hdi hcl h hE => TkH.read h (H19 d 2 hdi (fun e => hcl 2 19 2 (by kernel_rfl) e)) hE rfl) fun d a W hdi hcl hH hx hF => ?_
      have hE := TkH.ext hH (H19 d 2 hdi (fun e => hcl 2 19 2 (by kernel_rfl) e))
      have x1 := hF.slot 0 _ (by decide) rfl
      exact wp_value (w' := W) (v := .pointer (some ⟨b, 0, none⟩)) (by simp only [execOp, x1]; simp [go_sem]) ⟨rfl, Ext.refl _⟩
    · refine dutyG_val rfl rfl (fun d vals W W' hdi hcl h hE => TkH.read h (H19 d 3 hdi (fun e => hcl 2 19 3 (by kernel_rfl) e)) hE rfl) fun d a W hdi hcl hH hx hF => ?_
      have hE := TkH.ext hH (H19 d 3 hdi (fun e => hcl 2 19 3 (by kernel_rfl) e))
      have x1 := hx 2 6 _ _ rfl rfl ⟨⟨2, .data⟩, by simp, rfl, rfl⟩ rfl
      exact wp_value (ex_nilCheck rfl _ x1) ⟨rfl, Ext.refl _⟩
    · refine dutyG_val rfl rfl (fun d vals W W' hdi hcl h hE => TkH.read h (H19 d 4 hdi (fun e => hcl 2 19 4 (by kernel_rfl) e)) hE rfl) fun d a W hdi hcl hH hx hF => ?_
      have hE := TkH.ext hH (H19 d 4 hdi (fun e => hcl 2 19 4 (by kernel_rfl) e))
      have x1 := hx 3 7 _ _ rfl rfl ⟨⟨3, .data⟩, by simp, rfl, rfl⟩ rfl
      exact wp_value (w' := W) (v := .pointer (some ⟨b, 0, none⟩)) (by simp only [execOp, x1]; simp [go_sem]) ⟨rfl, Ext.refl _⟩
    · refine dutyG_val rfl rfl (fun d vals W W' hdi hcl h hE => TkH.read h (H19 d 5 hdi (fun e => hcl 2 19 5 (by kernel_rfl) e)) hE rfl) fun d a W hdi hcl hH hx hF => ?_
      have hE := TkH.ext hH (H19 d 5 hdi (fun e => hcl 2 19 5 (by kernel_rfl) e))
      have x1 := hx 4 8 _ _ rfl rfl ⟨⟨4, .data⟩, by simp, rfl, rfl⟩ rfl
      exact wp_value (ex_cell rfl _ _ x1 (hcE W hE) rfl Tryz.underlying50) ⟨rfl, Ext.refl _⟩
    · refine dutyG_val rfl rfl (fun d vals W W' hdi hcl h hE => TkH.read h (H19 d 6 hdi (fun e => hcl 2 19 6 (by kernel_rfl) e)) hE rfl) fun d a W hdi hcl hH hx hF => ?_
      have hE := TkH.ext hH (H19 d 6 hdi (fun e => hcl 2 19 6 (by kernel_rfl) e))
      have x1 := hF.slot 1 _ (by decide) rfl
      exact wp_value (w' := W) (v := .int .i64 i) (by simp only [execOp, x1]; simp [go_sem]) ⟨rfl, Ext.refl _⟩
    · refine dutyG_val rfl rfl (fun d vals W W' hdi hcl h hE => TkH.read h (H19 d 7 hdi (fun e => hcl 2 19 7 (by kernel_rfl) e)) hE rfl) fun d a W hdi hcl hH hx hF => ?_
      have hE := TkH.ext hH (H19 d 7 hdi (fun e => hcl 2 19 7 (by kernel_rfl) e))
      have x1 := hx 5 9 _ _ rfl rfl ⟨⟨5, .data⟩, by simp, rfl, rfl⟩ rfl
      have x2 := hx 6 10 _ _ rfl rfl ⟨⟨6, .data⟩, by simp, rfl, rfl⟩ rfl
      exact wp_value (w' := W) (v := .slice (some ⟨bl, off, none⟩) i cap) (by simp only [execOp, x1, x2, Option.map_none, Option.map_some, Sem.run_bind, hat, hsl1, Sem.run_pure, Result.andThen_ok]) ⟨rfl, Ext.refl _⟩
    · intro d a W hdi hcl hpre hG hF
      have h19 : d 19 = false := H19 d 8 hdi (fun e => hcl 2 19 8 (by kernel_rfl) e)
      have h16 : d 16 = false := H19 d 8 hdi (fun e => hcl 2 16 8 (by kernel_rfl) e)
      have h1 : d 1 = true := hpre ⟨1, .data⟩ (by simp) rfl
      have hE := TkH.ext hG.2 h19
      have hown := hG.2
      unfold TkH at hown
      simp only [h19, h16, hdi, h1, if_true, Bool.false_eq_true, if_false] at hown
      have x1 : a.eval (.tmp 5) = _ := told_eval hG.1 1 5 rfl rfl
      have x2 : a.eval (.tmp 11) = .slice (some ⟨bl, off, none⟩) i cap := (valsOf_eval 7 11 rfl rfl).trans (hG.1 7 _ rfl (hpre ⟨7, .data⟩ (by simp) rfl))
      obtain ⟨v', w', hr, h2, h3, _, h5⟩ := run_append_own_src (P := Tryz.prog) W w.heap.size 50 50 50 44 i0 (.agg zeroNd) 17 168 Tryz.underlying50 hinf hz0 hz1' hz2' rfl (by decide) _ 0 [] hown.2 _ i l1 (hsrc1 W hE) (by unfold maxLen at *; omega) (by omega) hE.size
      refine wp_value (ex_append rfl (by rw [x1, x2]; exact hr)) ⟨_, rfl, hG.1.put 8 _ (fun u hu => by cases hu), ?_⟩
      unfold TkH
      simp only [h19, h16, beq_self_eq_true, Bool.or_true, if_true, (by decide : ((19 : Nat) == 8) = false), (by decide : ((16 : Nat) == 8) = false), Bool.false_or, Bool.false_eq_true, if_false]
      rw [if_pos (show (Option.isSome (some 12 : Option Tmp)) = true from rfl), updV_same]
      simp only [List.nil_append, Nat.zero_add] at h2
      exact ⟨ext_grownT hE h3 hown.2, h2⟩
    · refine dutyG_val rfl rfl (fun d vals W W' hdi hcl h hE => TkH.read h (H19 d 9 hdi (fun e => hcl 2 19 9 (by kernel_rfl) e)) hE rfl) fun d a W hdi hcl hH hx hF => ?_
      have hE := TkH.ext hH (H19 d 9 hdi (fun e => hcl 2 19 9 (by kernel_rfl) e))
      have x1 := hF.slot 0 _ (by decide) rfl
      exact wp_value (w' := W) (v := .pointer (some ⟨b, 0, none⟩)) (by simp only [execOp, x1]; simp [go_sem]) ⟨rfl, Ext.refl _⟩
    · refine dutyG_val rfl rfl (fun d vals W W' hdi hcl h hE => TkH.read h (H19 d 10 hdi (fun e => hcl 2 19 10 (by kernel_rfl) e)) hE rfl) fun d a W hdi hcl hH hx hF => ?_
      have hE := TkH.ext hH (H19 d 10 hdi (fun e => hcl 2 19 10 (by kernel_rfl) e))
      have x1 := hx 9 13 _ _ rfl rfl ⟨⟨9, .data⟩, by simp, rfl, rfl⟩ rfl
      exact wp_value (ex_nilCheck rfl _ x1) ⟨rfl, Ext.refl _⟩
    · refine dutyG_val rfl rfl (fun d vals W W' hdi hcl h hE => TkH.read h (H19 d 11 hdi (fun e => hcl 2 19 11 (by kernel_rfl) e)) hE rfl) fun d a W hdi hcl hH hx hF => ?_
      have hE := TkH.ext hH (H19 d 11 hdi (fun e => hcl 2 19 11 (by kernel_rfl) e))
      have x1 := hx 10 14 _ _ rfl rfl ⟨⟨10, .data⟩, by simp, rfl, rfl⟩ rfl
      exact wp_value (w' := W) (v := .pointer (some ⟨b, 0, none⟩)) (by simp only [execOp, x1]; simp [go_sem]) ⟨rfl, Ext.refl _⟩
    · refine dutyG_val rfl rfl (fun d vals W W' hdi hcl h hE => TkH.read h (H19 d 12 hdi (fun e => hcl 2 19 12 (by kernel_rfl) e)) hE rfl) fun d a W hdi hcl hH hx hF => ?_
      have hE := TkH.ext hH (H19 d 12 hdi (fun e => hcl 2 19 12 (by kernel_rfl) e))
      have x1 := hx 11 15 _ _ rfl rfl ⟨⟨11, .data⟩, by simp, rfl, rfl⟩ rfl
      exact wp_value (ex_cell rfl _ _ x1 (hcE W hE) rfl Tryz.underlying50) ⟨rfl, Ext.refl _⟩
    · refine dutyG_val rfl rfl (fun d vals W W' hdi hcl h hE => TkH.read h (H19 d 13 hdi (fun e => hcl 2 19 13 (by kernel_rfl) e)) hE rfl) fun d a W hdi hcl hH hx hF => ?_
      have hE := TkH.ext hH (H19 d 13 hdi (fun e => hcl 2 19 13 (by kernel_rfl) e))
      have x1 := hF.slot 1 _ (by decide) rfl
      exact wp_value (w' := W) (v := .int .i64 i) (by simp only [execOp, x1]; simp [go_sem]) ⟨rfl, Ext.refl _⟩
    · refine dutyG_val rfl rfl (fun d vals W W' hdi hcl h hE => TkH.read h (H19 d 14 hdi (fun e => hcl 2 19 14 (by kernel_rfl) e)) hE rfl) fun d a W hdi hcl hH hx hF => ?_
      have hE := TkH.ext hH (H19 d 14 hdi (fun e => hcl 2 19 14 (by kernel_rfl) e))
      have x1 := hx 13 17 _ _ rfl rfl ⟨⟨13, .data⟩, by simp, rfl, rfl⟩ rfl
      exact wp_value (w' := W) (v := .int .i64 ((i + 1 : Nat) : Int)) (by simp only [execOp, x1]; simp [go_sem]; rw [IntKind.wrap_i64]; omega) ⟨rfl, Ext.refl _⟩
    · refine dutyG_val rfl rfl (fun d vals W W' hdi hcl h hE => TkH.read h (H19 d 15 hdi (fun e => hcl 2 19 15 (by kernel_rfl) e)) hE rfl) fun d a W hdi hcl hH hx hF => ?_
      have hE := TkH.ext hH (H19 d 15 hdi (fun e => hcl 2 19 15 (by kernel_rfl) e))
      have x1 := hx 12 16 _ _ rfl rfl ⟨⟨12, .data⟩, by simp, rfl, rfl⟩ rfl
      have x2 := hx 14 18 _ _ rfl rfl ⟨⟨14, .data⟩, by simp, rfl, rfl⟩ rfl
      exact wp_value (w' := W) (v := v3) (by simp only [execOp, x1, x2, Option.map_none, Option.map_some, Sem.run_bind, hat, hsl2, Sem.run_pure, Result.andThen_ok]) ⟨rfl, Ext.refl _⟩
    · intro d a W hdi hcl hpre hG hF
      have h19 : d 19 = false := H19 d 16 hdi (fun e => hcl 2 19 16 (by kernel_rfl) e)
      have h8 : d 8 = true := hpre ⟨8, .data⟩ (by simp) rfl
      have hE := TkH.ext hG.2 h19
      have hown := hG.2
      unfold TkH at hown
      simp only [h19, hdi, h8, if_true, Bool.false_eq_true, if_false] at hown
      have x1 : a.eval (.tmp 12) = _ := told_eval hG.1 8 12 rfl rfl
      have x2 : a.eval (.tmp 19) = v3 := (valsOf_eval 15 19 rfl rfl).trans (hG.1 15 _ rfl (hpre ⟨15, .data⟩ (by simp) rfl))
      obtain ⟨v', w', hr, h2, h3, _, h5⟩ := run_append_own_src (P := Tryz.prog) W w.heap.size 50 50 50 44 i0 (.agg zeroNd) 17 168 Tryz.underlying50 hinf hz0 hz1' hz2' rfl (by decide) _ i l1 hown.2 _ (L.length - (i + 1)) l2 (hsrc2 W hE) (by unfold maxLen at *; omega) (by omega) hE.size
      refine wp_value (ex_append rfl (by rw [x1, x2]; exact hr)) ⟨_, rfl, hG.1.put 16 _ (fun u hu => by cases hu), ?_⟩
      unfold TkH
      simp only [h19, beq_self_eq_true, Bool.or_true, if_true, (by decide : ((19 : Nat) == 16) = false), Bool.false_or, Bool.false_eq_true, if_false]
      rw [if_pos (show (Option.isSome (some 20 : Option Tmp)) = true from rfl), updV_same]
      exact ⟨ext_grownT hE h3 hown.2, h2⟩
    · refine dutyG_val rfl rfl (fun d vals W W' hdi hcl h hE => TkH.read h (H19 d 17 hdi (fun e => hcl 2 19 17 (by kernel_rfl) e)) hE rfl) fun d a W hdi hcl hH hx hF => ?_
      have hE := TkH.ext hH (H19 d 17 hdi (fun e => hcl 2 19 17 (by kernel_rfl) e))
      have x1 := hx 0 4 _ _ rfl rfl ⟨⟨0, .data⟩, by simp, rfl, rfl⟩ rfl
      exact wp_value (ex_nilCheck rfl _ x1) ⟨rfl, Ext.refl _⟩
    · refine dutyG_val rfl rfl (fun d vals W W' hdi hcl h hE => TkH.read h (H19 d 18 hdi (fun e => hcl 2 19 18 (by kernel_rfl) e)) hE rfl) fun d a W hdi hcl hH hx hF => ?_
      have hE := TkH.ext hH (H19 d 18 hdi (fun e => hcl 2 19 18 (by kernel_rfl) e))
      have x1 := hx 17 21 _ _ rfl rfl ⟨⟨17, .data⟩, by simp, rfl, rfl⟩ rfl
      exact wp_value (w' := W) (v := .pointer (some ⟨b, 0, none⟩)) (by simp only [execOp, x1]; simp [go_sem]) ⟨rfl, Ext.refl _⟩
    · intro d a W hdi hcl hpre hG hF
      have h16 : d 16 = true := hpre ⟨16, .data⟩ (by simp) rfl
      have hE := TkH.ext hG.2 hdi
      have hown := hG.2
      unfold TkH at hown
      simp only [hdi, h16, if_true, Bool.false_eq_true, if_false] at hown
      have x1 : a.eval (.tmp 22) = .pointer (some ⟨b, 0, none⟩) := (valsOf_eval 18 22 rfl rfl).trans (hG.1 18 _ rfl (hpre ⟨18, .data⟩ (by simp) rfl))
      have x2 : a.eval (.tmp 20) = _ := told_eval hG.1 16 20 rfl rfl
      obtain ⟨g1, g2⟩ := hstore W _ hE hown.2
      refine wp_skipped (run_store_one 50 (.tmp 22) (.tmp 20) rfl b _ x1 x2 g1 53 _ ((hE.block b hbl).trans HB.out) infoSl) ⟨undef, rfl, hG.1.put 19 _ (fun u hu => by cases hu), ?_⟩
      unfold TkH
      simp only [beq_self_eq_true, Bool.or_true, if_true]
      exact g2
end Go.Proofs.YthinpbdbhijbgaaGreatDoor
namespace Go.Proofs.YthinpbdbhijbgaaGreatDoor
open Go.RowKit
set_option maxHeartbeats 1000000
set_option maxRecDepth 100000

theorem rlast_any (s : ByteArray) (w : World) (hv : vpath s = true) (hs : s.size ≤ 9223372036854775800) : Calls Tryz.prog 157 #[.string s] w fun e w' => e = .returned (.int .i64 (lastS s)) ∧ w = w' := by
  obtain ⟨i, ei, hi, h47, hno⟩ := lastS_spec hv
  have HNO := Lib.hid hno
  have HI := Lib.hid ei
  have h47' := Lib.hid h47
  clear hno ei h47 hv
  go_enter Tryz.func157, Tryz.ntmps157
  go_wp2
  go_loop [3] (fun v => ∃ q : Nat, i ≤ q ∧ q < s.size ∧ v = .int .i64 q) (fun v => (intOf v).toNat)
  case atStart => exact ⟨s.size - 1, by omega, by omega, by go_num⟩
  case round =>
    obtain ⟨q, hq1, hq2, rfl⟩ := hrel
    have e2 := bat_get s q hq2
    by_cases hq : q = i
    · subst hq
      have h := h47'.out
      rw [e2] at h
      have hb : ((s[q].toNat : Int) != 47) = false := by simp; omega
      have hb2 : ¬ (s[q].toNat : Int) ≠ 47 := by omega
      clear e2 h h47' HNO
      go_wp2
      go_ret
      exact ⟨by rw [HI.out]; rfl, rfl⟩
    · have h := HNO.out q (by omega) hq2
      rw [e2] at h
      have hb : ((s[q].toNat : Int) != 47) = true := by simp; omega
      clear e2 h h47' HNO HI
      go_wp2
      go_round
      case rel => exact ⟨q - 1, by omega, by omega, by go_num⟩
      case measure => simp [intOf]; omega

theorem rparent_any (s : ByteArray) (w : World) (hs : s.size ≤ 9223372036854775800) : Calls Tryz.prog 101 #[.string s] w fun e w' => e = .returned (parV s) ∧ Below w.heap.size w w' := by
  have C1 := rvalid_any s w (by omega)
  by_cases hv : vpath s = true
  · have hroot := root_iff hv
    rw [hv] at C1
    by_cases h1 : s.size = 1
    · have e1 : (s.toList == [47]) = true := by rw [ByteArray.toList_eq]; simpa using hroot.1 h1
      have e2 : s.toList = [47] := by simpa using e1
      have R : Hid (parV s = .tuple #[.string ⟨#[]⟩, .int .i64 30]) := by unfold Hid parV; rw [if_neg (by simp [h1])]
      have C1 := Lib.hid C1
      clear h1 hroot hv
      go_enter Tryz.func101, Tryz.ntmps101
      go_wp2_with fail
      refine C1.out.mono ?_
      rintro e w1 ⟨rfl, hb1⟩
      clear C1
      go_wp2
      go_ret2
      exact ⟨by rw [R.out]; rfl, hb1⟩
    · have e1 : (s.toList == [47]) = false := by rw [ByteArray.toList_eq]; simpa using fun h => h1 (hroot.2 h)
      have e2 : ¬ s.toList = [47] := by simpa using e1
      have R : Hid (parV s = .tuple #[.string (s.extract 0 (max (lastS s) 1).toNat), .int .i64 0]) := by unfold Hid parV parentB; rw [if_pos ⟨hv, h1⟩]
      have C1 := Lib.hid C1
      have C2 := fun w => rlast_any s w hv hs
      obtain ⟨i, e, hi, _, _⟩ := lastS_spec hv
      rw [e] at C2 R
      have C2 := Lib.hid C2
      have hf := vpath_facts hv
      by_cases h0 : i = 0
      · subst h0
        have R2 : Hid (parV s = .tuple #[.string ⟨#[47]⟩, .int .i64 0]) := by
          unfold Hid
          rw [R.out]
          congr 3
          apply congrArg Value.string
          apply ba_ext
          have h3 : bat s 0 = 47 := hf.2.2.1
          have h4 := drop_at_slash (s := s) (i := 0) (by omega) h3
          rw [List.drop_zero] at h4
          rw [show (max ((0 : Nat) : Int) 1).toNat = 1 from rfl, ByteArray.data_extract, Array.toList_extract, List.extract_eq_take_drop]
          rw [List.drop_zero, h4]
          rfl
        clear hroot hf hv h1 e R
        go_enter Tryz.func101, Tryz.ntmps101
        go_wp2_with fail
        refine C1.out.mono ?_
        rintro e w1 ⟨rfl, hb1⟩
        clear C1
        go_wp2_with fail
        refine (C2.out _).mono ?_
        rintro e w2 ⟨rfl, rfl⟩
        clear C2
        go_wp2
        go_ret2
        exact ⟨by rw [R2.out]; rfl, hb1⟩
      · have hm : (max (i : Int) 1).toNat = i := by omega
        rw [hm] at R
        have hi0 : ((i : Int) == 0) = false := by simp; omega
        have hi1 : ¬ (i : Int) = 0 := by omega
        have hi2 : (i : Int) ≤ s.size := by omega
        clear hroot hf hv h1 e hm
        go_enter Tryz.func101, Tryz.ntmps101
        go_wp2_with fail
        refine C1.out.mono ?_
        rintro e w1 ⟨rfl, hb1⟩
        clear C1
        go_wp2_with fail
        refine (C2.out _).mono ?_
        rintro e w2 ⟨rfl, rfl⟩
        go_wp2_with fail
        refine (C2.out _).mono ?_
        rintro e w2 ⟨rfl, rfl⟩
        clear C2
        go_wp2
        go_ret2
        exact ⟨by rw [R.out]; rfl, hb1⟩
  · have hv' : vpath s = false := by simpa using hv
    have R : Hid (parV s = .tuple #[.string ⟨#[]⟩, .int .i64 30]) := by unfold Hid parV; rw [if_neg (by simp [hv'])]
    rw [hv'] at C1
    have C1 := Lib.hid C1
    clear hv hv'
    go_enter Tryz.func101, Tryz.ntmps101
    go_wp2_with fail
    refine C1.out.mono ?_
    rintro e w1 ⟨rfl, hb1⟩
    clear C1
    go_wp2
    go_ret2
    exact ⟨by rw [R.out]; rfl, hb1⟩
end Go.Proofs.YthinpbdbhijbgaaGreatDoor
namespace Go.Proofs.YthinpbdbhijbgaaGreatDoor
open Go.RowKit
set_option maxHeartbeats 1000000
set_option maxRecDepth 100000

theorem more_any (b : Nat) (w : World) : Calls Tryz.prog 270 #[.int .u8 b] w fun e w' => e = .returned (.tuple #[.int .i64 (moreF b).1, .int .u8 (moreF b).2.1, .int .u8 (moreF b).2.2]) ∧ w = w' := by
  go_enter Tryz.func270, Tryz.ntmps270
  go_wp2
  all_goals (try go_ret3)
  all_goals (refine ⟨?_, rfl⟩; go_light; (try simp only [beq_iff_eq, beq_eq_false_iff_ne, ne_eq] at *))
  all_goals (have key : ∀ n lo h, moreF b = (n, lo, h) → Ending.returned (.tuple #[.int .i64 n, .int .u8 lo, .int .u8 h]) = Ending.returned (.tuple #[.int .i64 (moreF b).1, .int .u8 (moreF b).2.1, .int .u8 (moreF b).2.2]) := fun n lo h e => by rw [e])
  all_goals (refine key _ _ _ ?_; unfold moreF; repeat' split)
  all_goals (first | rfl | (exfalso; omega))

theorem utf8_any (s : ByteArray) (w : World) (hs : s.size ≤ 9223372036854775800) : Calls Tryz.prog 238 #[.string s] w fun e w' => e = .returned (.bool (Lib.validD s.data.toList)) ∧ w = w' := by
  have hz := Lib.hid (validAt_zero s)
  go_enter Tryz.func238, Tryz.ntmps238
  go_wp2
  go_loop [3] (fun i => ∃ q : Nat, i = .int .i64 q ∧ q ≤ s.size ∧ Hid (validAt s 0 = validAt s q)) (fun i => s.size - (intOf i).toNat)
  case atStart => exact ⟨0, rfl, Nat.zero_le _, rfl⟩
  case round =>
    obtain ⟨q, rfl, hq, Hv⟩ := hrel
    by_cases hlt : q < s.size
    · have hbg := bat_get s q hlt
      have hb := bat_lt s q
      have hC := more_any (bat s q)
      obtain ⟨n0, lo0, hi0, hm⟩ : Exists fun n => Exists fun lo => Exists fun h => moreF (bat s q) = (n, lo, h) := ⟨_, _, _, rfl⟩
      have hcs := moreF_cases (bat s q) hb
      rw [hm] at hC hcs
      simp only [Prod.mk.injEq] at hcs
      by_cases hneg : n0 = -1
      · subst hneg
        have H1 : Hid (Lib.validD s.data.toList = false) := by
          unfold Hid; rw [← hz.out, Hv.out]; exact validAt_bad s q hlt (ut_none s q _ _ hm)
        rw [hbg] at hC
        have HC := Lib.hid hC
        clear hm hcs hC Hv hbg hb
        go_wp2_with fail
        refine (HC.out _).mono ?_
        rintro e w' ⟨rfl, rfl⟩
        go_wp2
        go_ret
        exact ⟨by rw [H1.out]; rfl, rfl⟩
      · obtain ⟨n, rfl⟩ : Exists fun n : Nat => n0 = (n : Int) := ⟨n0.toNat, by omega⟩
        have hn3 : n ≤ 3 := by omega
        have hlo : 0 ≤ lo0 ∧ lo0 ≤ 255 ∧ 0 ≤ hi0 ∧ hi0 ≤ 255 := by omega
        have hd := ut_dec s q hlt n lo0 hi0 hm
        have D1 := Lib.hid hd.1
        have D2 := Lib.hid hd.2.1
        have D3 := Lib.hid hd.2.2
        have hok1 : ∀ j, okAt s q lo0 hi0 j ↔ if j = 1 then lo0 ≤ bat s (q + 1) ∧ (bat s (q + 1) : Int) ≤ hi0 else 128 ≤ bat s (q + j) ∧ bat s (q + j) ≤ 191 := fun j => Iff.rfl
        have OK := Lib.hid hok1
        rw [hbg] at hC
        have HC := Lib.hid hC
        clear hd hm hcs hC hbg hb hok1
        by_cases hout : 0 < n ∧ s.size ≤ q + n
        · have H1 : Hid (Lib.validD s.data.toList = false) := by
            unfold Hid; rw [← hz.out, Hv.out]; exact validAt_bad s q hlt (D2.out hout.1 hout.2)
          obtain ⟨h0, h1⟩ := hout
          have h1' : (s.size : Int) ≤ (q : Int) + n := by omega
          go_wp2_with fail
          refine (HC.out _).mono ?_
          rintro e w' ⟨rfl, rfl⟩
          go_wp2
          go_ret
          exact ⟨by rw [H1.out]; rfl, rfl⟩
        · have hin : q + n < s.size := by omega
          have hin' : (q : Int) + n < s.size := by omega
          have hnn : (0 : Int) ≤ n := by omega
          clear hout
          go_wp2_with fail
          refine (HC.out _).mono ?_
          rintro e w' ⟨rfl, rfl⟩
          clear HC
          go_wp2
          go_loop [5, 6, 7] (fun lo h k => ∃ (m : Nat) (lk hk : Int), k = .int .i64 m ∧ 1 ≤ m ∧ m ≤ n + 1 ∧ lo = .int .u8 lk ∧ h = .int .u8 hk ∧ 0 ≤ lk ∧ lk ≤ 255 ∧ 0 ≤ hk ∧ hk ≤ 255 ∧ Hid (okAt s q lo0 hi0 m ↔ (lk ≤ bat s (q + m) ∧ (bat s (q + m) : Int) ≤ hk)) ∧ Hid (∀ j, 1 ≤ j → j < m → okAt s q lo0 hi0 j)) (fun _ _ k => n + 1 - (intOf k).toNat)
          case atStart => exact ⟨1, lo0, hi0, rfl, by omega, by omega, rfl, rfl, hlo.1, hlo.2.1, hlo.2.2.1, hlo.2.2.2, by unfold Hid; rw [OK.out 1, if_pos rfl], fun j h1 h2 => by omega⟩
          case round =>
            obtain ⟨m, lk, hk, rfl, hm1, hm2, rfl, rfl, hl0, hl1, hk0, hk1, HO, HA⟩ := hrel
            by_cases hmn : m ≤ n
            · have hpos : q + m < s.size := by omega
              have hbg := bat_get s (q + m) hpos
              by_cases hok : okAt s q lo0 hi0 m
              · have h2 := HO.out.1 hok
                rw [hbg] at h2
                obtain ⟨h3, h4⟩ := h2
                have HN : Hid (∀ j, 1 ≤ j → j < m + 1 → okAt s q lo0 hi0 j) := fun j h1 h2 => by
                  by_cases e : j = m
                  · rw [e]; exact hok
                  · exact HA.out j h1 (by omega)
                clear hbg hok HO HA
                go_wp2
                go_round
                case rel => exact ⟨m + 1, 128, 191, by go_num, by omega, by omega, rfl, rfl, by omega, by omega, by omega, by omega, by unfold Hid; rw [OK.out (m + 1), if_neg (by omega)]; omega, HN⟩
                case measure => simp [intOf]; omega
              · have H1 : Hid (Lib.validD s.data.toList = false) := by
                  unfold Hid; rw [← hz.out, Hv.out]; exact validAt_bad s q hlt (D3.out m hm1 hmn hin hok)
                have h2 : (s[q + m].toNat : Int) < lk ∨ (lk ≤ (s[q + m].toNat : Int) ∧ hk < (s[q + m].toNat : Int)) := by
                  have : ¬ (lk ≤ (bat s (q + m) : Int) ∧ (bat s (q + m) : Int) ≤ hk) := fun h => hok (HO.out.2 h)
                  rw [hbg] at this
                  omega
                clear hbg hok HO HA
                rcases h2 with h2 | ⟨h2, h3⟩
                all_goals
                  go_wp2
                  go_ret
                  exact ⟨by rw [H1.out]; rfl, rfl⟩
            · have hd := D1.out (.inr hin) (fun j h1 h2 => HA.out j h1 (by omega))
              have H1 : Hid (validAt s 0 = validAt s (q + 1 + n)) := by
                unfold Hid; rw [Hv.out, validAt_good s q hlt hd.1, hd.2]; congr 1; omega
              clear HO HA hd Hv
              go_wp2
              go_round
              case rel => exact ⟨q + 1 + n, by go_num, by omega, H1⟩
              case measure => simp [intOf]; omega
    · have H1 : Hid (Lib.validD s.data.toList = true) := by
        unfold Hid; rw [← hz.out, Hv.out]; exact validAt_end s q (by omega)
      clear Hv
      go_wp2
      go_ret
      exact ⟨by rw [H1.out]; rfl, rfl⟩

/-- What the reference says of a list's texts. -/
def textsN (l : List Ac) : Int := if l.any bigAc then 3 else if l.any badAc then 1 else 0

theorem textsN_eq (n : Nd) : rightN n = if !vpath n.path then 30 else if 1048575 < n.data.length ∨ 16 < n.acl.length then 3 else if textsN n.acl ≠ 0 then textsN n.acl else if badQ n then 1 else 0 := by
  unfold rightN textsN
  generalize n.acl.any bigAc = B
  generalize n.acl.any badAc = A
  generalize vpath n.path = v
  by_cases h : 1048575 < n.data.length ∨ 16 < n.acl.length
  · have h' : 1048575 < n.data.length ∨ 16 < n.acl.length ∨ B = true := h.elim .inl (fun k => .inr (.inl k))
    rw [if_pos h, if_pos h']
  · have h' : (1048575 < n.data.length ∨ 16 < n.acl.length ∨ B = true) ↔ B = true := ⟨fun k => k.elim (fun k => absurd (.inl k) h) (fun k => k.elim (fun k => absurd (.inr k) h) id), fun k => .inr (.inr k)⟩
    rw [if_neg h]
    simp only [h']
    cases B <;> cases A <;> simp

theorem texts_any (a : Option Addr) (c : Nat) (l : List Ac) (w : World) (hc : Cells w.heap.size w a (acCs l)) (hm : l.length ≤ 9223372036854775807) (ht : ∀ x ∈ l, x.scheme.size ≤ 9223372036854775800 ∧ x.id.size ≤ 9223372036854775800) :
    Calls Tryz.prog 191 #[.slice a l.length c] w fun e w' => e = .returned (.int .i64 (textsN l)) ∧ w = w' := by
  have HT := Lib.hid ht
  clear ht
  go_enter Tryz.func191, Tryz.ntmps191
  go_wp2
  go_loop [3, 4] (fun e i => ∃ (k : Nat) (ev : Int), k ≤ l.length ∧ i = .int .i64 k ∧ e = .int .i64 ev ∧ Hid (ev = if (l.take k).any badAc then 1 else 0) ∧ Hid ((l.take k).any bigAc = false)) (fun _ i => l.length - (intOf i).toNat)
  case atStart => exact ⟨0, 0, Nat.zero_le _, rfl, rfl, by simp [Hid], by simp [Hid]⟩
  case round =>
    obtain ⟨k, ev, hk, rfl, rfl, HE, HB⟩ := hrel
    by_cases hlt : k < l.length
    · obtain ⟨b, off, rfl, hb, c0, c1, c2⟩ := acCells hc k hlt
      have htk := HT.out l[k] (List.getElem_mem hlt)
      have ht1 := htk.1
      have ht2 := htk.2
      clear htk
      have hts : ∀ p : Ac → Bool, (l.take (k + 1)).any p = ((l.take k).any p || p l[k]) := fun p => by
        rw [List.take_succ_eq_append_getElem hlt, List.any_append]; simp
      have HTS := Lib.hid hts
      have hbig : l[k] ∈ l := List.getElem_mem hlt
      clear hts
      by_cases hbg : bigAc l[k] = true
      · have H1 : Hid (textsN l = 3) := by
          unfold Hid textsN
          rw [if_pos (List.any_eq_true.2 ⟨l[k], hbig, hbg⟩)]
        have h2 : 256 < (l[k].scheme.size : Int) ∨ ((l[k].scheme.size : Int) ≤ 256 ∧ 256 < (l[k].id.size : Int)) := by
          simp [bigAc] at hbg; omega
        clear hbg
        rcases h2 with h2 | ⟨h2, h3⟩
        all_goals
          go_wp2
          go_ret
          exact ⟨ret_int H1.out.symm, rfl⟩
      · have h2 : (l[k].scheme.size : Int) ≤ 256 ∧ (l[k].id.size : Int) ≤ 256 := by simp [bigAc] at hbg; omega
        obtain ⟨h2, h3⟩ := h2
        have hbf : bigAc l[k] = false := by simpa using hbg
        have HB2 : Hid ((l.take (k + 1)).any bigAc = false) := by unfold Hid; rw [HTS.out, HB.out, hbf]; rfl
        clear hbg hbf
        have U1 := utf8_any l[k].scheme
        have U2 := utf8_any l[k].id
        cases hv1 : Lib.validD l[k].scheme.data.toList
        · have HE2 : Hid ((1 : Int) = if (l.take (k + 1)).any badAc then 1 else 0) := by
            unfold Hid; rw [HTS.out, show badAc l[k] = true from by simp [badAc, hv1]]; simp
          rw [hv1] at U1
          have U1 := Lib.hid U1
          clear hv1 U2
          go_wp2_with fail
          refine (U1.out _ (by omega)).mono ?_
          rintro e w' ⟨rfl, rfl⟩
          go_wp2
          go_round
          case rel => exact ⟨k + 1, 1, by omega, by go_num, rfl, HE2, HB2⟩
          case measure => simp [intOf]; omega
        · rw [hv1] at U1
          have U1 := Lib.hid U1
          cases hv2 : Lib.validD l[k].id.data.toList
          · have HE2 : Hid ((1 : Int) = if (l.take (k + 1)).any badAc then 1 else 0) := by
              unfold Hid; rw [HTS.out, show badAc l[k] = true from by simp [badAc, hv2]]; simp
            rw [hv2] at U2
            have U2 := Lib.hid U2
            clear hv1 hv2
            go_wp2_with fail
            refine (U1.out _ (by omega)).mono ?_
            rintro e w' ⟨rfl, rfl⟩
            go_wp2_with fail
            refine (U2.out _ (by omega)).mono ?_
            rintro e w' ⟨rfl, rfl⟩
            go_wp2
            go_round
            case rel => exact ⟨k + 1, 1, by omega, by go_num, rfl, HE2, HB2⟩
            case measure => simp [intOf]; omega
          · have HE2 : Hid (ev = if (l.take (k + 1)).any badAc then 1 else 0) := by
              unfold Hid; rw [HTS.out, show badAc l[k] = false from by simp [badAc, hv1, hv2], Bool.or_false]; exact HE.out
            rw [hv2] at U2
            have U2 := Lib.hid U2
            clear hv1 hv2
            go_wp2_with fail
            refine (U1.out _ (by omega)).mono ?_
            rintro e w' ⟨rfl, rfl⟩
            go_wp2_with fail
            refine (U2.out _ (by omega)).mono ?_
            rintro e w' ⟨rfl, rfl⟩
            go_wp2
            go_round
            case rel => exact ⟨k + 1, ev, by omega, by go_num, rfl, HE2, HB2⟩
            case measure => simp [intOf]; omega
    · obtain rfl : k = l.length := by omega
      have H1 : Hid (textsN l = ev) := by
        unfold Hid textsN
        have e1 := HE.out
        have e2 := HB.out
        rw [List.take_length] at e1 e2
        rw [e2, e1]; simp
      clear HE HB
      go_wp2
      go_ret
      exact ⟨ret_int H1.out.symm, rfl⟩
end Go.Proofs.YthinpbdbhijbgaaGreatDoor
namespace Go.Proofs.YthinpbdbhijbgaaGreatDoor
open Go.RowKit
set_option maxHeartbeats 1000000
set_option maxRecDepth 100000

theorem rright_any (n : Nd) (da aa : Option Addr) (dc ac : Nat) (w : World) (hf : Fit n) (hT : Tabs w) (hA : Cells w.heap.size w aa (acCs n.acl)) :
    Calls Tryz.prog 142 #[.agg (ndC n (.slice da n.data.length dc) (.slice aa n.acl.length ac))] w (RightOut (rightN n) w) := by
  have hfp := hf.path
  have hfd := hf.data
  have hfa := hf.acl
  have HT := Lib.hid hf.texts
  have hbox := Box.alloc w (ndC n (.slice da n.data.length dc) (.slice aa n.acl.length ac)) 44
  have hb0 : Below w.heap.size w (w.alloc (.cells (ndC n (.slice da n.data.length dc) (.slice aa n.acl.length ac)) 44)) := (Below.refl _ _).alloc (Nat.le_refl _) _
  unfold ndC at hbox hb0 ⊢
  by_cases h1 : vpath n.path = true
  · have C1 := fun w => rvalid_any n.path w (by omega)
    simp only [h1] at C1
    have C1 := Lib.hid C1
    go_enter Tryz.func142, Tryz.ntmps142
    go_wp2_with fail
    refine (C1.out _).mono ?_
    rintro e w1 ⟨rfl, hb1⟩
    have hx1 := hbox.below hb1 (by simp)
    have hb : Below w.heap.size w w1 := hb0.trans (hb1.mono (by simp))
    clear hbox hb1 hb0
    unfold Box at hx1
    by_cases h2 : 1048575 < (n.data.length : Int)
    · have R : Hid (rightN n = 3) := by unfold Hid rightN; simp [h1]; omega
      clear h1 C1
      go_wp2
      go_ret
      exact ⟨ret_int R.out.symm, hb⟩
    by_cases h3 : 16 < (n.acl.length : Int)
    · have R : Hid (rightN n = 3) := by unfold Hid rightN; simp [h1]; omega
      have h2' : decide (1048575 < (n.data.length : Int)) = false := by simpa using h2
      clear h1 C1
      go_wp2
      go_ret
      exact ⟨ret_int R.out.symm, hb⟩
    have h2' : decide (1048575 < (n.data.length : Int)) = false := by simpa using h2
    have h3' : decide (16 < (n.acl.length : Int)) = false := by simpa using h3
    have hA1 := hA.below hb
    have hr4 : rightN n = if textsN n.acl ≠ 0 then textsN n.acl else if badQ n then 1 else 0 := by
      rw [textsN_eq, if_neg (by simp [h1]), if_neg (by omega)]
    have R4 := Lib.hid hr4
    have C2 := texts_any aa ac n.acl w1 (hA1.mono hb.size) (by omega) HT.out
    clear h1 C1 hr4
    by_cases h5 : ¬ textsN n.acl = 0
    · have R : Hid (rightN n = textsN n.acl) := by unfold Hid; rw [R4.out, if_pos h5]
      have hne : (textsN n.acl != 0) = true := by simpa using h5
      have C2 := Lib.hid C2
      clear h5 R4
      go_wp2_with fail
      refine C2.out.mono ?_
      rintro e w3 ⟨rfl, rfl⟩
      clear C2
      go_wp2
      go_ret
      exact ⟨ret_int R.out.symm, hb⟩
    have h5 : textsN n.acl = 0 := by omega
    have R : Hid (rightN n = if badQ n then 1 else 0) := by unfold Hid; rw [R4.out, h5]; simp
    rw [h5] at C2
    have C2 := Lib.hid C2
    clear R4 h5
    go_wp2_with fail
    refine C2.out.mono ?_
    rintro e w3 ⟨rfl, rfl⟩
    have hsz3 : w.heap.size < w1.heap.size := by
      have := block_lt_of_cell (show w1.cell? ⟨w.heap.size, 0, none⟩ = _ from hx1 0)
      exact this
    have hfin : ∀ o, Below w.heap.size w (w1.alloc o) := fun o => hb.alloc (by omega) o
    have HFIN := Lib.hid hfin
    have hx3 := hx1
    clear C2 hfin hx1
    have HR : ∀ b : Bool, badQ n = b → rightN n = if b then 1 else 0 := fun b hbq => by rw [R.out, hbq]
    have HR := Lib.hid HR
    cases hh : n.has
    · have hq0 : badQ n = (n.count != 0 || n.bytes != 0) := by unfold badQ; rw [hh]; simp
      rw [hh] at hx3
      by_cases hc0 : n.count = 0
      · by_cases hb0 : n.bytes = 0
        · have R0 := Lib.hid (HR.out false (by rw [hq0, hc0, hb0]; rfl))
          have e1 : (n.count != 0) = false := by simp [hc0]
          have e2 : (n.bytes != 0) = false := by simp [hb0]
          clear hc0 hb0 hq0 hh
          go_wp2
          go_ret
          exact ⟨ret_int R0.out.symm, HFIN.out _⟩
        · have R0 := Lib.hid (HR.out true (by rw [hq0]; simp [hb0]))
          have e1 : (n.count != 0) = false := by simp [hc0]
          have e2 : (n.bytes != 0) = true := by simp [hb0]
          clear hc0 hb0 hq0 hh
          go_wp2
          go_ret
          exact ⟨ret_int R0.out.symm, HFIN.out _⟩
      · have R0 := Lib.hid (HR.out true (by rw [hq0]; simp [hc0]))
        have e1 : (n.count != 0) = true := by simp [hc0]
        clear hc0 hq0 hh
        go_wp2
        go_ret
        exact ⟨ret_int R0.out.symm, HFIN.out _⟩
    · have hq0 : badQ n = (decide (n.count < -1) || decide (n.bytes < -1)) := by unfold badQ; rw [hh]; simp
      rw [hh] at hx3
      by_cases hc0 : n.count < -1
      · have R0 := Lib.hid (HR.out true (by rw [hq0]; simp [hc0]))
        clear hq0 hh
        go_wp2
        go_ret
        exact ⟨ret_int R0.out.symm, HFIN.out _⟩
      · by_cases hb0 : n.bytes < -1
        · have R0 := Lib.hid (HR.out true (by rw [hq0]; simp [hb0]))
          have e1 : decide (n.count < -1) = false := by simpa using hc0
          clear hq0 hh
          go_wp2
          go_ret
          exact ⟨ret_int R0.out.symm, HFIN.out _⟩
        · have R0 := Lib.hid (HR.out false (by rw [hq0]; simp [hc0, hb0]))
          have e1 : decide (n.count < -1) = false := by simpa using hc0
          have e2 : decide (n.bytes < -1) = false := by simpa using hb0
          clear hq0 hh
          go_wp2
          go_ret
          exact ⟨ret_int R0.out.symm, HFIN.out _⟩
  · have C1 := fun w => rvalid_any n.path w (by omega)
    have h1' : vpath n.path = false := by simpa using h1
    have R : Hid (rightN n = 30) := by unfold Hid rightN; simp [h1']
    simp only [h1'] at C1
    have C1 := Lib.hid C1
    clear h1 h1'
    go_enter Tryz.func142, Tryz.ntmps142
    go_wp2_with fail
    refine (C1.out _).mono ?_
    rintro e w1 ⟨rfl, hb1⟩
    have hb : Below w.heap.size w w1 := hb0.trans (hb1.mono (by simp))
    clear hbox hb1 hb0
    go_wp2
    go_ret
    exact ⟨ret_int R.out.symm, hb⟩
end Go.Proofs.YthinpbdbhijbgaaGreatDoor
namespace Go.Proofs.YthinpbdbhijbgaaGreatDoor
open Go.RowKit
set_option maxHeartbeats 2000000
set_option maxRecDepth 100000

theorem nds_fit {M : List (Key × Nd)} (hM : MOk M) : ∀ m ∈ nds M, Fit m := fun m hm => by
  obtain ⟨x, hx, rfl⟩ := List.mem_map.1 hm
  exact (right_fit (hM.right x hx)).1
theorem rfind_isSome {M : List (Key × Nd)} (hM : MOk M) (s : ByteArray) : (rfind (nds M) s).2 = (mget M s.data.toList).isSome := rfind_there hM.sorted hM.key s
end Go.Proofs.YthinpbdbhijbgaaGreatDoor
namespace Go.Proofs.YthinpbdbhijbgaaGreatDoor
open Go.RowKit
set_option maxHeartbeats 2000000
set_option maxRecDepth 100000

/-- What is told of a node with so many children: eleven cells. -/
def statC (n : Nd) (k : Int) : Array Value :=
  #[.int .i64 n.czxid, .int .i64 n.mzxid, .int .i64 n.ctime, .int .i64 n.mtime, .int .i32 n.version, .int .i32 (wrap32 (wrap32 (2 * n.creates) - wrap32 k)), .int .i32 n.aversion, .int .i64 n.owner, .int .i32 (wrap32 n.data.length), .int .i32 (wrap32 k), .int .i64 n.pzxid]
def zeroStat : Array Value := #[.int .i64 0, .int .i64 0, .int .i64 0, .int .i64 0, .int .i32 0, .int .i32 0, .int .i32 0, .int .i64 0, .int .i32 0, .int .i32 0, .int .i64 0]
theorem sizeStat : (Tryz.prog.info? 139).map (·.size) = some 11 := by kernel_rfl

theorem statof_any (n : Nd) (da aa : Option Addr) (dc ac : Nat) (k : Int) (w : World) (hf : Fit n) :
    Calls Tryz.prog 147 #[.agg (ndC n (.slice da n.data.length dc) (.slice aa n.acl.length ac)), .int .i64 k] w fun e w' => e = .returned (.agg (statC n k)) ∧ Ext w w' := by
  have hfd := hf.data
  obtain ⟨W1, hW1⟩ : ∃ W1, W1 = w.alloc (.cells (ndC n (.slice da n.data.length dc) (.slice aa n.acl.length ac)) 44) := ⟨_, rfl⟩
  have hE1 : Ext w W1 := by rw [hW1]; exact Ext.alloc _ _
  have hz1 : W1.heap.size = w.heap.size + 1 := by rw [hW1]; simp
  have hb1 : W1.heap[w.heap.size]? = some (.cells (ndC n (.slice da n.data.length dc) (.slice aa n.acl.length ac)) 44 (0, 0)) := by rw [hW1]; exact heap_alloc_new w _
  obtain ⟨W2, hW2⟩ : ∃ W2, W2 = W1.alloc (.cells zeroStat 139) := ⟨_, rfl⟩
  have hE2 : Ext W1 W2 := by rw [hW2]; exact Ext.alloc _ _
  have hz2 : W2.heap.size = w.heap.size + 1 + 1 := by rw [hW2]; simp [hz1]
  have hb2 := (hE2.block w.heap.size (by omega)).trans hb1
  have hs2 : W2.heap[w.heap.size + 1]? = some (.cells zeroStat 139 (0, 0)) := by rw [hW2, ← hz1]; exact heap_alloc_new W1 _
  have hx : Box W2 w.heap.size (ndC n (.slice da n.data.length dc) (.slice aa n.acl.length ac)) := fun j => cell_of_row _ _ _ _ _ _ hb2
  rw [hW2, hW1] at hx hs2
  unfold Box at hx
  unfold ndC zeroStat at hx hs2
  have HS2 := Lib.hid hs2
  clear hb1 hb2 hs2 hE1 hE2 hf hz1 hz2 hW2 hW1
  clear W2
  clear W1
  unfold ndC
  go_enter Tryz.func147, Tryz.ntmps147
  go_wp2
  refine bodyPost_ret (v := .agg (statC n k)) ?_ rfl ⟨rfl, (Ext.alloc _ _).trans (Ext.alloc _ _)⟩
  refine results_cell_row (p := 4) (ty := 139) rfl _ _ (w.heap.size + 1) 139 (statC n k) (0, 0) _ rfl ?_ Tryz.underlying139 rfl sizeStat
  have := heap_alloc_new (w.alloc (.cells (ndC n (.slice da n.data.length dc) (.slice aa n.acl.length ac)) 44)) (.cells (statC n k) 139)
  rw [World.size_alloc] at this
  exact this
end Go.Proofs.YthinpbdbhijbgaaGreatDoor
namespace Go.Proofs.YthinpbdbhijbgaaGreatDoor
open Go.RowKit
section
variable {P : Program} {ops : Array Oper} {Q : Exit → Act → World → Prop} {a0 : Act} {w0 : World}

/-- An operation's duty; l: which are done. Φ speaks of values alone. -/
def DutyS (P : Program) (ops : Array Oper) (Q : Exit → Act → World → Prop) (G : (Nat → Bool) → World → Prop) (Φ : Nat → Value → Prop) (a0 : Act) (i : Nat) (o : Oper) : Prop :=
  ∀ (d : Nat → Bool) a w, d i = false → (∀ f k j, reachB ops f k j = true → d k = true → d j = true) → (∀ e ∈ o.after.toList, Region.binds .any e = true → d e.on = true) → G d w → Framed ops a0 a → Ahead ops (fun i v _ => Φ i v) o a w →
    o.wp P a w (fun a' w' => ∃ v, a' = a.put o.dst v ∧ Φ i v ∧ G (fun k => d k || k == i) w') Q
def DutiesS (P : Program) (ops : Array Oper) (Q : Exit → Act → World → Prop) (G : (Nat → Bool) → World → Prop) (Φ : Nat → Value → Prop) (a0 : Act) : Nat → List Oper → Prop
  | _, [] => True
  | i, o :: l => DutyS P ops Q G Φ a0 i o ∧ DutiesS P ops Q G Φ a0 (i + 1) l
theorem DutiesS.at {G : (Nat → Bool) → World → Prop} {Φ : Nat → Value → Prop} : ∀ {l : List Oper} {k : Nat}, DutiesS P ops Q G Φ a0 k l → ∀ i o, l[i]? = some o → DutyS P ops Q G Φ a0 (k + i) o
  | [], _, _, i, o, h => by simp at h
  | q :: l, k, hd, 0, o, h => by simp at h; subst h; exact hd.1
  | q :: l, k, hd, i + 1, o, h => by
    have := DutiesS.at (k := k + 1) hd.2 i o (by simpa using h)
    rwa [show k + 1 + i = k + (i + 1) from by omega] at this

theorem region_state (m : Nat) (G : (Nat → Bool) → World → Prop) (hG0 : G (fun _ => false) w0.drew) (Φ : Nat → Value → Prop)
    (hchk : (dstsOk ops && aheadB ops && (ops.toList.all fun o => o.guard.isNone && o.dst.any fun d => decide (d < m))) = true) (hsz : a0.tmps.size = m)
    (hd : DutiesS P ops Q G Φ a0 0 ops.toList)
    (hend : ∀ us d w, (∀ i, i < ops.size → d i = true) → G d w → us.length = ops.toList.length → (∀ i u, us[i]? = some u → Φ i u) → Q .normal (filled ops.toList us a0) w) :
    RegionP P ops Q a0 w0 := by
  simp only [Bool.and_eq_true] at hchk
  obtain ⟨⟨hdst, hacy⟩, hall⟩ := hchk
  have hdd : ∀ o ∈ ops.toList, ∃ d, o.dst = some d ∧ d < a0.tmps.size := fun o ho => by
    have := List.all_eq_true.1 hall o ho
    simp only [Bool.and_eq_true] at this
    have h2 := this.2
    cases hq : o.dst with
    | none => rw [hq] at h2; cases h2
    | some d => rw [hq] at h2; exact ⟨d, rfl, by rw [hsz]; simpa using h2⟩
  have hin : ∀ o ∈ ops.toList, ∀ d, o.dst = some d → d < a0.tmps.size := fun o ho d hd => by
    obtain ⟨d', h1, h2⟩ := hdd o ho
    rw [hd] at h1
    rw [Option.some.inj h1]; exact h2
  have hng : ∀ o ∈ ops.toList, o.guard = none := fun o ho => by
    have := List.all_eq_true.1 hall o ho
    simp only [Bool.and_eq_true] at this
    simpa using this.1
  have hdn : (ops.toList.filterMap (·.dst)).Nodup := by simpa [dstsOk] using hdst
  unfold RegionP
  refine wpAny_inv (fun l a w => l.size = ops.size ∧ G (fun k => l.getD k false) w ∧ Framed ops a0 a ∧ (∀ i o, ops[i]? = some o → l.getD i false = true → Φ i (valOf o a)) ∧ Closed ops l) (fun _ _ _ h => h.1) ?_ ?_ _ _ _ _ ?_ ?_
  · rintro l a w i ⟨hs, hE, hF, hP, hC⟩ hi
    obtain ⟨hlt, hu, hpre⟩ := (ready_iff hs).1 hi
    have ho : ops[i]? = some ops[i] := Array.getElem?_eq_getElem hlt
    have hol : ops.toList[i]? = some ops[i] := by simp
    have hmem : ops[i] ∈ ops.toList := by simp
    have hduty := hd.at i ops[i] hol
    rw [Nat.zero_add] at hduty
    have hgo := hduty (fun k => l.getD k false) a w hu (fun f k j h hk => hC.reach f k j h hk) (fun e he hb => hpre e he hb) hE hF (fun e he hb q hq => hP e.on q hq (hpre e he hb))
    unfold wpOpP
    rw [ho]
    simp only []
    rw [if_pos (by unfold Region.wanted; rw [hng _ hmem])]
    refine Oper.wp_mono (fun a' w' h => ?_) hgo
    obtain ⟨v, rfl, hv, hG'⟩ := h
    have hgp : (fun k => (l.setIfInBounds i true).getD k false) = fun k => l.getD k false || k == i := by
      funext k
      by_cases e : k = i
      · subst e
        rw [getD_set_same (by omega)]; simp
      · rw [getD_set_other e]
        have : (k == i) = false := by simpa using e
        rw [this, Bool.or_false]
    refine ⟨by simpa using hs, by rw [hgp]; exact hG', framed_put hF hmem v, fun j o hj hlj => ?_, fun j o hj hlj e he hb => ?_⟩
    · by_cases e : j = i
      · subst e
        rw [ho] at hj
        obtain rfl := Option.some.inj hj
        obtain ⟨d, hd1, _⟩ := hdd _ hmem
        rw [valOf_put_same (fun d hd => by rw [hF.2.1]; exact hin _ hmem d hd) (fun h => by rw [hd1] at h; cases h)]
        exact hv
      · rw [getD_set_other e] at hlj
        rw [valOf_put_other (fun d hd h => e (dst_inj ops.toList hdn j i o ops[i] d (by simpa using hj) hol hd h))]
        exact hP j o hj hlj
    · by_cases hei : e.on = i
      · rw [hei]; exact getD_set_same (by omega)
      · rw [getD_set_other hei]
        by_cases hji : j = i
        · subst hji
          rw [ho] at hj
          obtain rfl := Option.some.inj hj
          exact hpre e he hb
        · rw [getD_set_other hji] at hlj
          exact hC j o hj hlj e he hb
  · rintro l a w ⟨hs, hE, hF, hP, _⟩ hr
    have hdone : ∀ i, i < ops.size → l.getD i false = true := fun i hi => ready_none hs hacy hr (i + 1) i (by omega) hi
    rw [framed_filled hF ops.toList (fun _ h => h) (fun _ h => .inl h) hin]
    refine hend _ _ w hdone hE (by simp) fun i u hu => ?_
    rw [List.getElem?_map, Option.map_eq_some_iff] at hu
    obtain ⟨o, ho, rfl⟩ := hu
    exact hP i o (by simpa using ho) (hdone i (Array.getElem?_eq_some_iff.1 (show ops[i]? = some o by simpa using ho)).1)
  · have hf : ∀ i, (Array.replicate ops.size false).getD i false = false := fun i => by
      rw [Array.getD_eq_getD_getElem?, Array.getElem?_replicate]; split <;> rfl
    refine ⟨by simp, by simp only [hf]; exact hG0, ⟨rfl, rfl, fun _ _ => rfl⟩, ?_, ?_⟩
    · intro i o _ h
      rw [hf] at h; cases h
    · intro i o _ h
      rw [hf] at h; cases h
  · unfold unlisted
    exact Nat.le_trans (List.count_le_length) (by simp)

theorem region_state_vals (m : Nat) (G : (Nat → Bool) → World → Prop) (hG0 : G (fun _ => false) w0.drew) (vals : List Value) (hlen : vals.length = ops.toList.length)
    (hchk : (dstsOk ops && aheadB ops && (ops.toList.all fun o => o.guard.isNone && o.dst.any fun d => decide (d < m))) = true) (hsz : a0.tmps.size = m)
    (hd : DutiesS P ops Q G (fun i v => vals[i]? = some v) a0 0 ops.toList)
    (hend : ∀ d w, (∀ i, i < ops.size → d i = true) → G d w → Q .normal (filled ops.toList vals a0) w) : RegionP P ops Q a0 w0 := by
  refine region_state m G hG0 (fun i v => vals[i]? = some v) hchk hsz hd fun us d w hdn hG hl hP => ?_
  have : us = vals := List.ext_getElem? fun i => by
    by_cases hi : i < us.length
    · rw [hP i us[i] (List.getElem?_eq_getElem hi), List.getElem?_eq_getElem hi]
    · rw [List.getElem?_eq_none (by omega), List.getElem?_eq_none (by omega)]
  rw [this]
  exact hend d w hdn hG

/-- An operation that only reads. -/
theorem dutyS_ext {i : Nat} {o : Oper} {G : (Nat → Bool) → World → Prop} {Φ : Nat → Value → Prop} (hG : ∀ d d' w w', G d w → Ext w w' → (∀ k, k ≠ i → d' k = d k) → G d' w')
    (h : ∀ d a w, G d w → Framed ops a0 a → Ahead ops (fun i v _ => Φ i v) o a w → o.wp P a w (fun a' w' => ∃ v, a' = a.put o.dst v ∧ Φ i v ∧ Ext w w') Q) : DutyS P ops Q G Φ a0 i o := by
  intro d a w _ _ _ hGw hF hA
  refine Oper.wp_mono (fun a' w' hh => ?_) (h d a w hGw hF hA)
  obtain ⟨v, rfl, hv, hE⟩ := hh
  exact ⟨v, rfl, hv, hG d _ _ _ hGw hE fun k hk => by
    have : (k == i) = false := by simpa using hk
    rw [this, Bool.or_false]⟩
end
end Go.Proofs.YthinpbdbhijbgaaGreatDoor
