/- A region that draws its order, whose operations' values are either told or have a property that new memory leaves. The walk of package quota's Begin: what is used at the quotas of a tree. The walk of a quota book's Used. Plain laws: the document's list of the quotas over a path is the program's; its bounds are passed alike. The walk of Put. The ranges of a node's numbers, as it is opened. The nodes of a tree in another order are the same tree: the plain law; a list turned round and about. -/
import Derived.Test.YtamolbegmkngdaaGreatDoorJQuotaTurns8
import Derived.Test.YtamolbegmkngdaaGreatDoorJQuotaTurns14
import Derived.Test.YtamolbegmkngdaaGreatDoorJQuotaTurns9
import Derived.Test.YtamolbegmkngdaaGreatDoorJQuotaTurns13
import Derived.Test.YtamolbegmkngdaaGreatDoorJQuotaTurns6
import Derived.Test.YtamolbegmkngdaaGreatDoorJQuotaTurns10
namespace Go.Proofs.YtamolbegmkngdaaGreatDoor
open Go.RowKit
inductive Sp where
  | val (v : Value)
  | prop (p : Value → World → Prop)
def Sp.ok : Sp → Value → World → Prop
  | .val x, v, _ => v = x
  | .prop p, v, w => p v w
def spP (l : List Sp) (i : Nat) (v : Value) (w : World) : Prop := match l[i]? with
  | some s => s.ok v w
  | none => False
/-- The properties stay. -/
def stayS : List Sp → Prop
  | [] => True
  | .val _ :: r => stayS r
  | .prop p :: r => (∀ v w w', p v w → Ext w w' → p v w') ∧ stayS r
theorem stayS.at : ∀ {l : List Sp}, stayS l → ∀ (i : Nat) (s : Sp), l[i]? = some s → ∀ v w w', s.ok v w → Ext w w' → s.ok v w'
  | [], _, i, s, h, _, _, _, _, _ => by simp at h
  | .val _ :: r, h, 0, s, hs, v, w, w', hv, _ => by simp at hs; subst hs; exact hv
  | .prop p :: r, h, 0, s, hs, v, w, w', hv, hE => by simp at hs; subst hs; exact h.1 v w w' hv hE
  | .val _ :: r, h, i + 1, s, hs, v, w, w', hv, hE => stayS.at (l := r) h i s (by simpa using hs) v w w' hv hE
  | .prop p :: r, h, i + 1, s, hs, v, w, w', hv, hE => stayS.at (l := r) h.2 i s (by simpa using hs) v w w' hv hE
/-- For all values that are as told. -/
def forS : List Sp → World → (List Value → Prop) → Prop
  | [], _, K => K []
  | .val v :: r, w, K => forS r w fun t => K (v :: t)
  | .prop p :: r, w, K => ∀ u, p u w → forS r w fun t => K (u :: t)
theorem forS_all : ∀ (l : List Sp) (w : World) (K : List Value → Prop), forS l w K → ∀ us : List Value, us.length = l.length → (∀ i u, us[i]? = some u → spP l i u w) → K us
  | [], w, K, h, us, hl, _ => by
    obtain rfl := List.eq_nil_of_length_eq_zero (by simpa using hl)
    exact h
  | .val v :: r, w, K, h, [], hl, _ => by simp at hl
  | .prop v :: r, w, K, h, [], hl, _ => by simp at hl
  | .val v :: r, w, K, h, u :: us, hl, hP => by
    have hu : u = v := hP 0 u rfl
    subst hu
    exact forS_all r w _ h us (by simpa using hl) fun i x hx => hP (i + 1) x (by simpa using hx)
  | .prop p :: r, w, K, h, u :: us, hl, hP => by
    have hu : p u w := hP 0 u rfl
    exact forS_all r w _ (h u hu) us (by simpa using hl) fun i x hx => hP (i + 1) x (by simpa using hx)
section
variable {P : Program} {ops : Array Oper} {Q : Exit → Act → World → Prop} {a0 : Act} {w0 : World}
theorem Ahead.pick {Φ : Nat → Value → World → Prop} {o p : Oper} {a : Act} {w : World} (h : Ahead ops Φ o a w) (j : Nat) (d : Tmp) (v : Value) (hp : ops[j]? = some p) (hd : p.dst = some d) (he : ∃ e ∈ o.after.toList, e.on = j ∧ Region.binds .any e = true) (hv : ∀ u, Φ j u w → u = v) : a.eval (.tmp d) = v :=
  hv _ (h.slot j d hp hd he)
/-- An operation whose guard says no. -/
theorem duty_no {Φ : Nat → Value → World → Prop} {i j : Nat} {b : Bool} {o p : Oper} {d : Tmp} (hg : o.guard = some (j, b)) (hp : ops[j]? = some p) (hd : p.dst = some d) (hin : d < a0.tmps.size) (he : ∃ e ∈ o.after.toList, e.on = j ∧ Region.binds .any e = true)
    (hv : ∀ v w, Φ j v w → v = .bool (!b)) (h : ∀ w, Φ i undef w) : Duty P ops Q Φ a0 w0 i o := by
  intro a w hE hF hA
  obtain ⟨e, hem, rfl, heb⟩ := he
  have hval := hv _ _ (hA e hem heb p hp)
  have : Region.wanted o (yielded ops a.tmps) = false := by
    unfold Region.wanted
    rw [hg]
    have hlt : d < a.tmps.size := by rw [hF.2.1]; exact hin
    unfold valOf at hval
    rw [hd] at hval
    simp only [Array.getD_eq_getD_getElem?, Array.getElem?_eq_getElem hlt, Option.getD_some] at hval
    cases b <;> simp [yielded, hp, hd, Array.getElem?_eq_getElem hlt, hval]
  rw [this]
  simp only [Bool.false_eq_true, if_false]
  exact h w
theorem region_sp (m : Nat) (sp : List Sp) (hst : stayS sp) (hlen : sp.length = ops.toList.length) (hchk : (dstsOk ops && aheadB ops && (ops.toList.all fun o => o.dst.any fun d => decide (d < m))) = true) (hsz : a0.tmps.size = m)
    (hd : Duties P ops Q (spP sp) a0 w0 0 ops.toList)
    (hend : ∀ w, Ext w0 w → forS sp w fun us => Q .normal (filled ops.toList us a0) w) : RegionP P ops Q a0 w0 := by
  have hall := hchk
  simp only [Bool.and_eq_true] at hall
  refine region_rel_e m Ext Ext.refl (fun _ _ _ => Ext.trans) Ext.drew (spP sp) (fun i v w w' h hE => ?_) (fun i v w h ho => ?_) ?_ hsz (duties_rel _ _ hd) fun us w hE hl hP => ?_
  · unfold spP at h ⊢
    cases hs : sp[i]? with
    | none => rw [hs] at h; exact h.elim
    | some s => rw [hs] at h; exact hst.at i s hs v w w' h hE
  · exfalso
    cases hoi : ops[i]? with
    | none => rw [hoi] at ho; cases ho
    | some o =>
      rw [hoi] at ho
      have := List.all_eq_true.1 hall.2 o (List.mem_of_getElem? (i := i) (by simpa using hoi))
      cases hd : o.dst with
      | none => rw [hd] at this; cases this
      | some d => simp [hd] at ho
  · simp only [Bool.and_eq_true]
    refine ⟨hall.1, List.all_eq_true.2 fun o ho => ?_⟩
    have := List.all_eq_true.1 hall.2 o ho
    cases hd : o.dst with
    | none => rfl
    | some d => rw [hd] at this; simpa using this
  · exact forS_all sp w _ (hend w hE) us (by rw [hl, hlen]) hP
/-- The same, but for the last operation, which all others are ahead of: it may turn what it likes. -/
theorem region_sp_last (m : Nat) (sp : List Sp) (hst : stayS sp) (k : Nat) (ol : Oper) (hk : ops[k]? = some ol) (hks : ops.size = k + 1) (hlen : sp.length = k) (hg : ol.guard = none) (hdn : ol.dst = none)
    (hchk : (dstsOk ops && aheadB ops && coverOk ops && ((ops.toList.take (ops.size - 1)).all fun o => o.dst.any fun d => decide (d < m))) = true) (hsz : a0.tmps.size = m)
    (hd : Duties P ops Q (spP sp) a0 w0 0 (ops.toList.take k))
    (hlast : ∀ w, Ext w0 w → forS sp w fun us => ol.wp P (filled (ops.toList.take k) us a0) w (fun a' w' => Q .normal a' w') Q) : RegionP P ops Q a0 w0 := by
  refine region_last_e m (spP sp) (fun i v w w' h hE => ?_) hchk hsz k ol hk hks hg hdn hd fun us w hE hl hP => ?_
  · unfold spP at h ⊢
    cases hs : sp[i]? with
    | none => rw [hs] at h; exact h.elim
    | some s => rw [hs] at h; exact hst.at i s hs v w w' h hE
  · exact forS_all sp w _ (hlast w hE) us (by rw [hl, List.length_take, Array.length_toList, hks, hlen]; omega) hP
end
end Go.Proofs.YtamolbegmkngdaaGreatDoor
namespace Go.Proofs.YtamolbegmkngdaaGreatDoor
open Go.RowKit Go.Sort
set_option maxHeartbeats 4000000
set_option maxRecDepth 100000
attribute [local go_sem] Oper.semAt_some

def usedV (M : List (Key × Nd)) (n : Nd) : Value := .agg #[.int .i64 (undK M n.path).length, .int .i64 (bytesK M (undK M n.path))]
def usedP (M : List (Key × Nd)) (L : List Nd) : List (Key × Value) := (L.filter (·.has)).map fun n => (keyN n, usedV M n)
/-- What is used at the quotas of a tree. -/
def usedL (M : List (Key × Nd)) : List (Key × Value) := usedP M (nds M)
theorem usedP_snoc (M : List (Key × Nd)) (L : List Nd) (n : Nd) : usedP M (L ++ [n]) = usedP M L ++ if n.has = true then [(keyN n, usedV M n)] else [] := by
  unfold usedP
  rw [List.filter_append, List.map_append]
  congr 1
  by_cases h : n.has = true
  · rw [if_pos h, List.filter_cons_of_pos h]; rfl
  · rw [if_neg h, List.filter_cons_of_neg h]; rfl
theorem usedP_length (M : List (Key × Nd)) (L : List Nd) : (usedP M L).length ≤ L.length := by
  unfold usedP
  rw [List.length_map]
  exact List.length_filter_le _ _
theorem mins_last {α : Type} {x : Key × α} : ∀ {m : List (Key × α)}, (∀ y ∈ m, bytesBefore y.1 x.1 = true) → mins x m = m ++ [x]
  | [], _ => rfl
  | y :: r, h => by
    have h1 := h y (List.mem_cons_self ..)
    have h2 : ¬ bytesBefore x.1 y.1 = true := fun h2 => before_asymm h1 h2
    show (if bytesBefore x.1 y.1 = true then x :: y :: r else y :: mins x r) = _
    rw [if_neg h2, mins_last fun z hz => h z (List.mem_cons_of_mem _ hz)]
    rfl
theorem mput_last {α : Type} {m : List (Key × α)} {k : Key} {v : α} (h : ∀ y ∈ m, bytesBefore y.1 k = true) : mput m k v = m ++ [(k, v)] := by
  have e : mdel m k = m := List.filter_eq_self.2 fun y hy => by
    have h1 := h y hy
    simp only [Bool.not_eq_true', beq_eq_false_iff_ne, ne_eq]
    intro e
    rw [e] at h1
    exact before_asymm h1 h1
  unfold mput
  rw [e]
  exact mins_last h

/-- A book in memory: its block, its map. -/
def BookAt (w : World) (bb bm : Nat) (m : List (Key × Value)) : Prop := w.heap[bb]? = some (.cells #[.map (some bm)] 151 (0, 0)) ∧ SMap Tryz.prog 9 w bm m
theorem BookAt.ext {w w' : World} {bb bm : Nat} {m : List (Key × Value)} (h : BookAt w bb bm m) (hE : Ext w w') : BookAt w' bb bm m :=
  ⟨(hE.block bb (Array.getElem?_eq_some_iff.1 h.1).1).trans h.1, h.2.keep (hE.block bm h.2.lt)⟩
def BegOut (M : List (Key × Nd)) (w : World) (e : Ending) (w' : World) : Prop := ∃ bb bm, e = .returned (.pointer (some ⟨bb, 0, none⟩)) ∧ BookAt w' bb bm (usedL M) ∧ w.heap.size ≤ bb ∧ w.heap.size ≤ bm ∧ Ext w w'

/-- What All hands back, whatever the tree. -/
def AllsM (pv : Value) (M : List (Key × Nd)) (w : World) (ga : Nat) : Prop := ∀ W, Ext w W → ga < W.heap.size → Calls Tryz.prog 61 #[pv] W fun e W1 => ∃ bw btb, e = .returned (.func (.func 159) #[] #[.pointer (some ⟨bw, 0, none⟩), .pointer (some ⟨btb, 0, none⟩)]) ∧
  Tells Fence.wide 5 Tryz.prog 159 #[.pointer (some ⟨bw, 0, none⟩), .pointer (some ⟨btb, 0, none⟩)] (fun x : Value × Nd => #[x.1]) (GS fun _ k => k ≠ ga) (KeepS fun _ k => k ≠ ga) (fun _ k => k ≠ ga) (fun xs => xs.map (·.2) = nds M) (fun pre => ∃ rest, pre.map (·.2) ++ rest = nds M) W1 ∧ Ext W W1
theorem AllsM.of_tree {S : Nat → Prop} {w : World} {bt : Nat} {M : List (Key × Nd)} {N : Nat} (hT : TreeAt S w bt M N) (hl : M.length * 168 ≤ 140737488355328) (ga : Nat) (hga : w.heap.size ≤ ga) : AllsM (.pointer (some ⟨bt, 0, none⟩)) M w ga := fun W hE _ => by
  refine (tall_any bt W).mono ?_
  rintro e W1 ⟨bw, btb, rfl, hcw, hct, hE1⟩
  have hT1 := (hT.ext hE).ext hE1
  have hok := hT.ok
  have hs1 : ∀ k, S k → k ≠ ga := fun k hk => by have := hT.bound k hk; omega
  have TT := told_tells (fun _ k => k ≠ ga) S W1 bt M N hT1 hs1 bw btb 122 #[.pointer (some ⟨bt, 0, none⟩)] #[] hcw hct (enters_of Tryz.func122 (by kernel_rfl) rfl) (M.map (·.1))
    (fun W hW => by simpa using tsorted_any S W bt M N (hT1.ext hW) (by omega)) (by simpa using hl) hok.keys_le
  rw [nodesOf_vals hok.sorted] at TT
  exact ⟨bw, btb, rfl, TT, hE1⟩

structure BegI (M : List (Key × Nd)) (pv : Value) (b1 bm bb b3 : Nat) (w W7 : World) (pre : List (Value × Nd)) (W : World) : Prop where
  map : SMap Tryz.prog 9 W bm (usedP M (pre.map (·.2)))
  c1 : W.heap[b1]? = some (.cells #[pv] 23 (0, 0))
  cb : W.heap[bb]? = some (.cells #[.map (some bm)] 151 (0, 0))
  c3 : W.heap[b3]? = some (.cells #[.pointer (some ⟨bb, 0, none⟩)] 57 (0, 0))
  size : W7.heap.size ≤ W.heap.size
  keep : Below w.heap.size w W
theorem BegI.turn {M : List (Key × Nd)} {pv : Value} {b1 bm bb b3 : Nat} {w W7 : World} {pre : List (Value × Nd)} {X Y : World} (h : BegI M pv b1 bm bb b3 w W7 pre X) (hT : Turn W7.heap.size X Y) (hw : w.heap.size ≤ W7.heap.size) : BegI M pv b1 bm bb b3 w W7 pre Y := by
  obtain ⟨h0, h1, h2, h3, h4, h5⟩ := h
  refine ⟨?_, hT.cells h1, hT.cells h2, hT.cells h3, Nat.le_trans h4 hT.size, h5.trans (hT.below hw h5.size)⟩
  obtain ⟨es, c, hb⟩ := h0.isMap
  exact h0.keep ((hT.same bm _ hb (.inr rfl)).trans hb.symm)
theorem BegI.ext {M : List (Key × Nd)} {pv : Value} {b1 bm bb b3 : Nat} {w W7 : World} {pre : List (Value × Nd)} {X Y : World} (h : BegI M pv b1 bm bb b3 w W7 pre X) (hE : Ext X Y) (hw : w.heap.size ≤ W7.heap.size) : BegI M pv b1 bm bb b3 w W7 pre Y := h.turn (Turn.of_ext hE) hw

theorem qbegin_any (pv : Value) (hpv : ∃ po, pv = .pointer po) (M : List (Key × Nd)) (w : World) (hM : MOk M) (hA : ∀ ga, w.heap.size ≤ ga → AllsM pv M w ga) (hWe : WeighsM pv M w) (hl : M.length * 168 ≤ 140737488355328) :
    Calls Tryz.prog 28 #[pv] w (BegOut M w) := by
  obtain ⟨po, rfl⟩ := hpv
  obtain ⟨Wa, hWa⟩ : ∃ Wa, Wa = w.alloc (.cells #[.pointer po] 23) := ⟨_, rfl⟩
  obtain ⟨Wb, hWb⟩ : ∃ Wb, Wb = Wa.alloc (.map #[] 0) := ⟨_, rfl⟩
  obtain ⟨Wc, hWc⟩ : ∃ Wc, Wc = Wb.alloc (.cells #[.map (some (w.heap.size + 1))] 151) := ⟨_, rfl⟩
  obtain ⟨Wd, hWd⟩ : ∃ Wd, Wd = Wc.alloc (.cells #[.pointer (some ⟨w.heap.size + 1 + 1, 0, none⟩)] 57) := ⟨_, rfl⟩
  have hEa : Ext w Wa := by rw [hWa]; exact Ext.alloc _ _
  have hEb : Ext Wa Wb := by rw [hWb]; exact Ext.alloc _ _
  have hEc : Ext Wb Wc := by rw [hWc]; exact Ext.alloc _ _
  have hEd : Ext Wc Wd := by rw [hWd]; exact Ext.alloc _ _
  have hza : Wa.heap.size = w.heap.size + 1 := by rw [hWa]; simp
  have hzb : Wb.heap.size = w.heap.size + 2 := by rw [hWb]; simp [hza]
  have hzc : Wc.heap.size = w.heap.size + 3 := by rw [hWc]; simp [hzb]
  have hzd : Wd.heap.size = w.heap.size + 4 := by rw [hWd]; simp [hzc]
  have g1 : Wd.heap[w.heap.size]? = some (.cells #[.pointer po] 23 (0, 0)) := ((hEb.trans (hEc.trans hEd)).block w.heap.size (by omega)).trans (by rw [hWa]; exact heap_alloc_new w _)
  have gm : SMap Tryz.prog 9 Wd (w.heap.size + 1) [] := by
    have : SMap Tryz.prog 9 Wb (w.heap.size + 1) [] := by rw [hWb, ← hza]; exact SMap.made _ _ Wa
    exact this.keep ((hEc.trans hEd).block (w.heap.size + 1) (by omega))
  have gb : Wd.heap[w.heap.size + 2]? = some (.cells #[.map (some (w.heap.size + 1))] 151 (0, 0)) := (hEd.block (w.heap.size + 2) (by omega)).trans (by rw [hWc, ← hzb]; exact heap_alloc_new Wb _)
  have g3 : Wd.heap[w.heap.size + 3]? = some (.cells #[.pointer (some ⟨w.heap.size + 1 + 1, 0, none⟩)] 57 (0, 0)) := by rw [hWd, ← hzc]; exact heap_alloc_new Wc _
  have hEw : Ext w Wd := hEa.trans (hEb.trans (hEc.trans hEd))
  have C1 := Lib.hid (hA (w.heap.size + 1) (by omega) Wd hEw (by omega))
  have hWd2 : ((((w.alloc (.cells #[.pointer po] 23)).alloc (.map #[] 0)).alloc (.cells #[.map (some (w.heap.size + 1))] 151)).alloc (.cells #[.pointer (some ⟨w.heap.size + 1 + 1, 0, none⟩)] 57)) = Wd := by rw [hWd, hWc, hWb, hWa]
  have HWD := Lib.hid hWd2
  have HM := Lib.hid hM
  have HWE := Lib.hid hWe
  have HEW := Lib.hid hEw
  have HI0 := Lib.hid (And.intro g1 (And.intro gm (And.intro gb g3)))
  have q1 : (Wd.alloc (.cells #[] 0)).heap.size = Wd.heap.size + 1 := by simp
  clear hA hWe hM g1 gm gb g3 hEw hEa hEb hEc hEd hWd2 hWa hWb hWc hWd hza hzb hzc q1
  clear Wa Wb Wc
  have hmm := @run_makeMap Tryz.prog
  refine (callsIn_wide (n := 6)).1 (callsIn_of_wp_marks Tryz.func28 rfl trivial ?_)
  simp only [Tryz.ntmps28, List.size_toArray, List.length_cons, List.length_nil, Nat.reduceAdd, Nat.reduceSub, Array.replicate_succ, Array.replicate_zero, List.push_toArray, List.append_toArray, List.nil_append, List.cons_append]
  gi_wp2_with fail
  rw [HWD.out]
  refine ⟨trivial, (callsIn_wide.2 C1.out).mono ?_⟩
  rintro e W1 ⟨bw, btb, rfl, TT, hE1⟩
  have hE1 : Ext Wd W1 := hE1
  obtain ⟨g1, gm, gb, g3⟩ := HI0.out
  have hz1 := hE1.size
  have hEw1 := HEW.out.trans hE1
  have hI0 : BegI M (.pointer po) w.heap.size (w.heap.size + 1) (w.heap.size + 1 + 1) (w.heap.size + 1 + 1 + 1) w W1 [] W1 :=
    ⟨gm.keep (hE1.block _ gm.lt), (hE1.block _ (by omega)).trans g1, (hE1.block _ (by omega)).trans gb, (hE1.block _ (by omega)).trans g3, Nat.le_refl _, hEw1⟩
  have hnn := told_not_nil #[.pointer (some ⟨bw, 0, none⟩), .pointer (some ⟨btb, 0, none⟩)] W1
  have TT := Lib.hid TT
  have HI1 := Lib.hid hI0
  have HE1 := Lib.hid hEw1
  clear hI0 hEw1 g1 gm gb g3 C1 HWD HI0 hmm hE1
  gi_wp2
  refine wpIn_tells_nd (Safe := fun _ k => k ≠ w.heap.size + 1) (by omega) (gf := 159) (lb := #[.pointer (some ⟨bw, 0, none⟩), .pointer (some ⟨btb, 0, none⟩)]) rfl (enters_of Tryz.func159 (by kernel_rfl) rfl) TT.out (show 10 < 26 by decide) (show 4 < 26 by decide) (by decide)
    (BegI M (.pointer po) w.heap.size (w.heap.size + 1) (w.heap.size + 1 + 1) (w.heap.size + 1 + 1 + 1) w W1) (fun _ _ _ => False) (fun _ _ _ _ h => h) ?hI ?hIx HI1.out ?body ?done ?stop
  case hI =>
    intro pre X Y hX hTn
    exact ⟨hX.turn hTn (by omega), fun k hk => by have := hX.size; omega⟩
  case hIx => exact fun _ _ _ _ h _ => h
  case stop => exact fun _ _ _ _ _ _ h => h.elim
  case body =>
    rintro l pre n da dc aa ac bl W hl0 hrec ⟨rest, hSp⟩ hIW hG hbl
    simp only [List.setIfInBounds_toArray, List.set_cons_succ, List.set_cons_zero]
    have hh : W.cell? ⟨bl, 14, none⟩ = some (.bool n.has) := cell_of_row _ _ _ _ _ _ hbl
    have hp0 : W.cell? ⟨bl, 0, none⟩ = some (.string n.path) := cell_of_row _ _ _ _ _ _ hbl
    have hc1 : W.cell? ⟨w.heap.size, 0, none⟩ = some (.pointer po) := cell_of_row _ _ _ _ _ _ hIW.c1
    have hcb : W.cell? ⟨w.heap.size + 1 + 1, 0, none⟩ = some (.map (some (w.heap.size + 1))) := cell_of_row _ _ _ _ _ _ hIW.cb
    have hc3 : W.cell? ⟨w.heap.size + 1 + 1 + 1, 0, none⟩ = some (.pointer (some ⟨w.heap.size + 1 + 1, 0, none⟩)) := cell_of_row _ _ _ _ _ _ hIW.c3
    have hsn := usedP_snoc M (pre.map (·.2)) n
    have hpre : (pre ++ [(Value.agg (ndC n (.slice da n.data.length dc) (.slice aa n.acl.length ac)), n)]).map (·.2) = pre.map (·.2) ++ [n] := by simp
    have hSp : (pre.map (·.2) ++ [n]) ++ rest = nds M := by rw [← hpre]; exact hSp
    have HSN := Lib.hid hsn
    have HPRE := Lib.hid hpre
    have HIW := Lib.hid hIW
    clear hsn hpre
    refine wpIn_block ?_
    cases hhas : n.has with
    | false =>
      rw [hhas] at hh
      have hst : usedP M (pre.map (·.2) ++ [n]) = usedP M (pre.map (·.2)) := by rw [HSN.out, hhas]; simp
      have HST := Lib.hid hst
      clear hst hhas hSp
      gi_wp2
      have hK := Kp.ext (B := W1.heap.size) (ga := w.heap.size + 1) (Ext.refl W)
      have hi := HIW.out
      exact ⟨hK.recs, hK.cells, ⟨by rw [HPRE.out, HST.out]; exact hi.map, hi.c1, hi.cb, hi.c3, hi.size, hi.keep⟩⟩
    | true =>
      rw [hhas] at hh
      have hst : usedP M (pre.map (·.2) ++ [n]) = usedP M (pre.map (·.2)) ++ [(keyN n, usedV M n)] := by rw [HSN.out, hhas]; simp
      have hmem : n ∈ nds M := by rw [← hSp]; simp
      obtain ⟨x0, hx0, hxe⟩ := List.mem_map.1 hmem
      have hx1 : x0.2 = n := hxe
      have hkx : x0.1 = keyN n := by rw [← hx1]; exact HM.out.key x0 hx0
      have hg : mget M n.path.data.toList = some n := mget_of_mem HM.out.sorted (by
        have : x0 = (n.path.data.toList, n) := Prod.ext hkx hx1
        rw [← this]; exact hx0)
      have hps : n.path.size ≤ maxLen := by
        have := (right_fit (HM.out.at hg).2).1.path
        unfold maxLen; omega
      have hsrt : ∀ y ∈ usedP M (pre.map (·.2)), bytesBefore y.1 (keyN n) = true := fun y hy => by
        unfold usedP at hy
        obtain ⟨m, hm, rfl⟩ := List.mem_map.1 hy
        have hm := (List.mem_filter.1 hm).1
        have hpw : (nds M).Pairwise fun a b => bytesBefore (keyN a) (keyN b) = true := by
          unfold nds
          rw [List.pairwise_map]
          exact HM.out.sorted.imp_of_mem fun {a b} ha hb h => by
            rw [← HM.out.key a ha, ← HM.out.key b hb]; exact h
        rw [← hSp, List.pairwise_append, List.pairwise_append] at hpw
        exact hpw.1.2.2 m hm n (List.mem_singleton.2 rfl)
      have hlen := usedP_length M (pre.map (·.2))
      have hpl : (pre.map (·.2)).length ≤ M.length := by
        have := congrArg List.length hSp
        rw [nds_length] at this
        simp only [List.length_append] at this
        omega
      have hWe : ∀ W2, Ext W W2 → Calls Tryz.prog 60 #[.pointer po, .string n.path] W2 fun e w' => e = .returned (.tuple #[.int .i64 (undK M n.path).length, .int .i64 (bytesK M (undK M n.path)), .int .i64 0]) ∧ Ext W2 w' := fun W2 h2 => HWE.out W2 n (Ext.trans HIW.out.keep h2) hg
      have HST := Lib.hid hst
      have HSRT := Lib.hid hsrt
      clear hst hhas hSp hmem hx0 hxe hx1 hkx hg hsrt
      gi_wp2
      refine wpIn_region_P l (by kernel_rfl) (by rfl) (region_sp_last 26 [.val (.pointer (some ⟨w.heap.size + 1 + 1, 0, none⟩)), .val (.pointer (some ⟨w.heap.size + 1 + 1, 0, none⟩)), .val (.pointer (some ⟨w.heap.size + 1 + 1, 0, none⟩)), .val (.map (some (w.heap.size + 1))), .val (.pointer (some ⟨bl, 0, none⟩)), .val (.string n.path), .val (.pointer po), .prop (fun v w => ∃ x, v = WeighF x ∧ w.cell? ⟨x, 0, none⟩ = some (.pointer po)), .val (.pointer (some ⟨bl, 0, none⟩)), .val (.string n.path), .val (.agg #[.int .i64 (undK M n.path).length, .int .i64 (bytesK M (undK M n.path))])] ⟨fun v w w' h hE => by obtain ⟨x, h1, h2⟩ := h; exact ⟨x, h1, (hE.cell (World.block_lt_of_cell? _ _ h2)).trans h2⟩, trivial⟩ 11 _ rfl rfl rfl rfl rfl (by decide) rfl ?duties ?last)
      case duties =>
        refine ⟨?_, ?_, ?_, ?_, ?_, ?_, ?_, ?_, ?_, ?_, ?_, trivial⟩
        · refine duty_free rfl fun a w' hE hF hA => ?_
          have x1 := hF.slot 3 _ (by decide) rfl
          exact wp_value (ex_cell rfl _ _ x1 ((hE.cell (World.block_lt_of_cell? _ _ hc3)).trans hc3) rfl Tryz.underlying57) ⟨_, rfl, rfl, Ext.refl _⟩
        · refine duty_free rfl fun a w' hE hF hA => ?_
          have x1 := hA.pick 0 14 (.pointer (some ⟨w.heap.size + 1 + 1, 0, none⟩)) rfl rfl ⟨⟨0, .data⟩, by simp, rfl, rfl⟩ (fun u h => h)
          exact wp_value (ex_nilCheck rfl _ x1) ⟨_, rfl, rfl, Ext.refl _⟩
        · refine duty_free rfl fun a w' hE hF hA => ?_
          have x1 := hA.pick 1 15 (.pointer (some ⟨w.heap.size + 1 + 1, 0, none⟩)) rfl rfl ⟨⟨1, .data⟩, by simp, rfl, rfl⟩ (fun u h => h)
          exact wp_value (w' := w') (v := .pointer (some ⟨w.heap.size + 1 + 1, 0, none⟩)) (by simp only [execOp, x1]; simp [go_sem]) ⟨_, rfl, rfl, Ext.refl _⟩
        · refine duty_free rfl fun a w' hE hF hA => ?_
          have x1 := hA.pick 2 16 (.pointer (some ⟨w.heap.size + 1 + 1, 0, none⟩)) rfl rfl ⟨⟨2, .data⟩, by simp, rfl, rfl⟩ (fun u h => h)
          exact wp_value (ex_cell rfl _ _ x1 ((hE.cell (World.block_lt_of_cell? _ _ hcb)).trans hcb) rfl Tryz.underlying149) ⟨_, rfl, rfl, Ext.refl _⟩
        · refine duty_free rfl fun a w' hE hF hA => ?_
          have x1 := hF.slot 4 _ (by decide) rfl
          exact wp_value (w' := w') (v := .pointer (some ⟨bl, 0, none⟩)) (by simp only [execOp, x1]; simp [go_sem]) ⟨_, rfl, rfl, Ext.refl _⟩
        · refine duty_free rfl fun a w' hE hF hA => ?_
          have x1 := hA.pick 4 18 (.pointer (some ⟨bl, 0, none⟩)) rfl rfl ⟨⟨4, .data⟩, by simp, rfl, rfl⟩ (fun u h => h)
          exact wp_value (ex_cell rfl _ _ x1 ((hE.cell (World.block_lt_of_cell? _ _ hp0)).trans hp0) rfl Tryz.underlying9) ⟨_, rfl, rfl, Ext.refl _⟩
        · refine duty_free rfl fun a w' hE hF hA => ?_
          have x1 := hF.slot 1 _ (by decide) rfl
          exact wp_value (ex_cell rfl _ _ x1 ((hE.cell (World.block_lt_of_cell? _ _ hc1)).trans hc1) rfl Tryz.underlying23) ⟨_, rfl, rfl, Ext.refl _⟩
        · refine duty_free rfl fun a w' hE hF hA => ?_
          have x1 := hA.pick 6 20 (.pointer po) rfl rfl ⟨⟨6, .data⟩, by simp, rfl, rfl⟩ (fun u h => h)
          refine wp_enter (ex_call rfl (enters_f Tryz.func85 (by kernel_rfl) rfl)) (by simp only [List.map_toArray, List.map_cons, List.map_nil, x1]; exact qweigh_any (.pointer po) ⟨_, rfl⟩ w') ?_
          rintro e w4 ⟨x, rfl, hx, _, hb⟩
          exact ⟨_, rfl, _, rfl, ⟨x, rfl, hx⟩, hb⟩
        · refine duty_free rfl fun a w' hE hF hA => ?_
          have x1 := hF.slot 4 _ (by decide) rfl
          exact wp_value (w' := w') (v := .pointer (some ⟨bl, 0, none⟩)) (by simp only [execOp, x1]; simp [go_sem]) ⟨_, rfl, rfl, Ext.refl _⟩
        · refine duty_free rfl fun a w' hE hF hA => ?_
          have x1 := hA.pick 8 22 (.pointer (some ⟨bl, 0, none⟩)) rfl rfl ⟨⟨8, .data⟩, by simp, rfl, rfl⟩ (fun u h => h)
          exact wp_value (ex_cell rfl _ _ x1 ((hE.cell (World.block_lt_of_cell? _ _ hp0)).trans hp0) rfl Tryz.underlying9) ⟨_, rfl, rfl, Ext.refl _⟩
        · refine duty_free rfl fun a w' hE hF hA => ?_
          have p1 : (fun v w => ∃ x, v = WeighF x ∧ w.cell? ⟨x, 0, none⟩ = some (.pointer po)) (a.eval (.tmp 21)) w' := hA.slot 7 21 rfl rfl ⟨⟨7, .data⟩, by simp, rfl, rfl⟩
          have x2 := hA.pick 9 23 (.string n.path) rfl rfl ⟨⟨9, .data⟩, by simp, rfl, rfl⟩ (fun u h => h)
          obtain ⟨x, x1, hx⟩ := p1
          refine wp_enter (ex_callv rfl x1 (enters_f Tryz.func143 (by kernel_rfl) rfl)) (by simp only [List.map_toArray, List.map_cons, List.map_nil, List.append_toArray, List.cons_append, List.nil_append, x2]; exact qweigh1_any x (.pointer po) n.path _ _ 0 w' hx fun W2 h2 => hWe W2 (hE.trans h2)) ?_; rintro e w4 ⟨rfl, hb⟩; exact ⟨_, rfl, _, rfl, rfl, hb⟩
      case last =>
        intro W8 hE8
        simp only [forS]
        intro u hu
        clear hu
        have hi := HIW.out.ext hE8 (by omega)
        have hq1 : (usedP M (pre.map (·.2))).length < maxLen := by unfold maxLen; omega
        have HI8 := Lib.hid hi
        have HE8 := Lib.hid hE8
        clear hE8 hi
        simp only [filled, List.take_succ_cons, List.take_zero, List.zip_cons_cons, List.zip_nil_left, List.foldl_cons, List.foldl_nil, Act.put, List.setIfInBounds_toArray, List.set_cons_succ, List.set_cons_zero]
        refine oper_put (.tmp 17) (.tmp 19) (.tmp 24) 149 rfl 9 110 strT Tryz.underlying149 (w.heap.size + 1) (usedP M (pre.map (·.2))) HI8.out.map hq1 rfl n.path hps rfl _ rfl ?_
        intro W9 hS9 hT9
        have hi := HI8.out
        have hMod : Mod (· = w.heap.size + 1) W8 W9 := Mod.turned hT9 rfl
        have hK := (Kp.ext (B := W1.heap.size) (ga := w.heap.size + 1) HE8.out).trans (Kp.mod hMod fun k hk => by omega)
        change KeepsRec W1.heap.size W W9 ∧ KeepS (fun _ k => k ≠ w.heap.size + 1) W W9 ∧ BegI M (.pointer po) w.heap.size (w.heap.size + 1) (w.heap.size + 1 + 1) (w.heap.size + 1 + 1 + 1) w W1 (pre ++ [_]) W9
        refine ⟨hK.recs, hK.cells, ⟨?_, hMod.cells hi.c1, hMod.cells hi.cb, hMod.cells hi.c3, Nat.le_trans hi.size hMod.size, hi.keep.trans (hMod.below (fun k hk => by subst hk; exact Nat.le_succ _) hi.keep.size)⟩⟩
        rw [HPRE.out, HST.out]
        have e := mput_last (v := usedV M n) HSRT.out
        rw [← e]
        exact hS9
  case done =>
    rintro D xs W hD hS hIW hK
    have hfin : Ext w (W.putObj D (.deferred none)) := hIW.keep.trans ((Turn.putObj (B := W1.heap.size) (.deferred none) hD hK rfl).below (by omega) hIW.keep.size)
    have HFIN := Lib.hid hfin
    have HK := Lib.hid hK
    have hc3 : W.cell? ⟨w.heap.size + 1 + 1 + 1, 0, none⟩ = some (.pointer (some ⟨w.heap.size + 1 + 1, 0, none⟩)) := cell_of_row _ _ _ _ _ _ hIW.c3
    have hbk : BookAt (W.putObj D (.deferred none)) (w.heap.size + 1 + 1) (w.heap.size + 1) (usedL M) := by
      have hi := hIW.turn (Turn.putObj (B := W1.heap.size) (.deferred none) hD hK rfl) (by omega)
      refine ⟨hi.cb, ?_⟩
      have h := hi.map
      rw [hS] at h
      exact h
    have HBK := Lib.hid hbk
    clear hfin hK hbk TT HI1 hIW
    gi_wp2
    refine ⟨by simp, .inl ⟨_, _, rfl, run_takeDeferred HK.out, ?_⟩⟩
    refine ⟨_, results_tmp rfl _ _ _, ?_⟩
    exact ⟨_, _, rfl, HBK.out, by omega, by omega, HFIN.out⟩
end Go.Proofs.YtamolbegmkngdaaGreatDoor
namespace Go.Proofs.YtamolbegmkngdaaGreatDoor
open Go.RowKit Go.Sort
set_option maxHeartbeats 4000000
set_option maxRecDepth 100000

/-- A book's values are nodes and bytes. -/
def Pairs (m : List (Key × Value)) : Prop := ∀ x ∈ m, ∃ c b : Int, x.2 = .agg #[.int .i64 c, .int .i64 b]
theorem usedP_pairs (M : List (Key × Nd)) (L : List Nd) : Pairs (usedP M L) := fun x hx => by
  unfold usedP at hx
  obtain ⟨n, _, rfl⟩ := List.mem_map.1 hx
  exact ⟨_, _, rfl⟩
def usedAt (m : List (Key × Value)) (s : ByteArray) : Value := (mget m s.data.toList).getD (.agg zeroUsed)
theorem Pairs.at {m : List (Key × Value)} (h : Pairs m) (s : ByteArray) : ∃ c b : Int, usedAt m s = .agg #[.int .i64 c, .int .i64 b] := by
  unfold usedAt
  cases hg : mget m s.data.toList with
  | none => exact ⟨0, 0, rfl⟩
  | some v => exact h _ (mget_some_mem hg)

theorem qused_any (w : World) (bb bm : Nat) (m : List (Key × Value)) (hB : BookAt w bb bm m) (hv : Pairs m) (s : ByteArray) (hs : s.size ≤ maxLen) :
    Calls Tryz.prog 67 #[.pointer (some ⟨bb, 0, none⟩), .string s] w fun e w' => e = .returned (.tuple #[usedAt m s, .bool (mget m s.data.toList).isSome]) ∧ Ext w w' := by
  obtain ⟨c, b, hcb⟩ := hv.at s
  obtain ⟨W1, hW1⟩ : ∃ W1, W1 = w.alloc (.cells zeroUsed 110) := ⟨_, rfl⟩
  have hE1 : Ext w W1 := by rw [hW1]; exact Ext.alloc _ _
  have hz1 : W1.heap.size = w.heap.size + 1 := by rw [hW1]; simp
  have hr1 : W1.heap[w.heap.size]? = some (.cells zeroUsed 110 (0, 0)) := by rw [hW1]; exact heap_alloc_new w _
  obtain ⟨W2, hW2⟩ : ∃ W2, W2 = W1.alloc (.cells #[.int .i64 c, .int .i64 b] 110) := ⟨_, rfl⟩
  have hE2 : Ext W1 W2 := by rw [hW2]; exact Ext.alloc _ _
  have hr2 := (hE2.block w.heap.size (by omega)).trans hr1
  have hb2 : W2.heap[W1.heap.size]? = some (.cells #[.int .i64 c, .int .i64 b] 110 (0, 0)) := by rw [hW2]; exact heap_alloc_new W1 _
  have hB1 := hB.ext hE1
  have hbk : W1.cell? ⟨bb, 0, none⟩ = some (.map (some bm)) := cell_of_row _ _ _ _ _ _ hB1.1
  have hlk := SMap.look_ok (e := 110) hB1.2 strT Tryz.underlying149 (z := .agg zeroUsed) (by kernel_rfl) hs
  rw [show (mget m s.data.toList).getD (.agg zeroUsed) = .agg #[.int .i64 c, .int .i64 b] from hcb] at hlk
  have HSET := (setRow_alloc W1 zeroUsed #[.int .i64 c, .int .i64 b] 110).trans hW2.symm
  have HNew := heap_alloc_new W1 (.cells zeroUsed 110)
  have hr3 := setRow_heap W2 w.heap.size _ #[.int .i64 c, .int .i64 b] 110 (0, 0) hr2
  have hE3 : Ext w (W2.setRow w.heap.size #[.int .i64 c, .int .i64 b]) := (hE1.trans hE2).trans' ⟨rfl, rfl, rfl, by simp [World.setRow], fun k hk => setRow_other _ _ _ _ (by omega)⟩
  rw [hcb]
  generalize (mget m s.data.toList).isSome = th at *
  rw [hz1] at hb2
  have HB2 := Lib.hid hb2
  have HR2 := Lib.hid hr2
  have HR3 := Lib.hid hr3
  have HE3 := Lib.hid hE3
  unfold zeroUsed at HSET HNew HR2
  have hbk' := hbk
  have hlk' := hlk
  unfold zeroUsed at hW1
  rw [hW1] at HSET HNew hbk' hlk'
  rw [World.size_alloc] at HSET HNew
  have HSET := Lib.hid HSET
  have HNew := Lib.hid HNew
  clear hbk hlk hcb hW2 hb2 hr2 hr3 hE3 hB1 hB hr1 hE1 hE2 hW1
  go_enter Tryz.func67, Tryz.ntmps67
  go_wp2_with (first | (refine wpList_store_row rfl 110 (.tmp 6) (.tmp 18) rfl (w.heap.size + 1) _ rfl rfl 110 _ HNew.out sizeUsed rfl (by simp [Value.oneCell']) ?_; rw [HSET.out]) | (refine wpList_load_row rfl 110 (.tmp 6) rfl (w.heap.size + 1) rfl 110 _ (0, 0) _ HB2.out Tryz.underlying110 rfl sizeUsed ?_) | (refine wpList_store_row rfl 110 (.tmp 4) (.tmp 20) rfl w.heap.size _ rfl rfl 110 _ HR2.out sizeUsed rfl (by simp [Value.oneCell']) ?_))
  refine bodyPost_ret (v := .tuple #[.agg #[.int .i64 c, .int .i64 b], .bool th]) ?_ rfl ⟨rfl, HE3.out⟩
  exact results_cell_row2 (p := 4) (q := 5) (ty := 110) rfl _ _ w.heap.size 110 _ (0, 0) _ _ rfl rfl HR3.out Tryz.underlying110 rfl sizeUsed
end Go.Proofs.YtamolbegmkngdaaGreatDoor
namespace Go.Proofs.YtamolbegmkngdaaGreatDoor
open Go.RowKit Go.Sort

theorem bytes_trans' {a b c : List UInt8} (h1 : bytesBefore a b = true) (h2 : bytesBefore b c = true) : bytesBefore a c = true := WideShapes.bytes_trans _ _ _ h1 h2
theorem upL_before : ∀ (n : Nat) (p : ByteArray), p.size ≤ n → vpath p = true → (upL p).Pairwise (fun a b => bytesBefore b.data.toList a.data.toList = true) ∧ ∀ q ∈ upL p, bytesBefore q.data.toList p.data.toList = true
  | 0, p, hn, hv => by have := (vpath_facts hv).1; omega
  | n + 1, p, hn, hv => by
    by_cases h1 : p.size = 1
    · rw [upL_one h1]
      exact ⟨List.Pairwise.nil, fun q h => by simp at h⟩
    · have hs := (path_split hv h1).2.2.1
      obtain ⟨i1, i2⟩ := upL_before n (parentB p) (by omega) (vpath_parent hv h1)
      have hb := parent_before hv h1
      rw [upL_step hv h1]
      refine ⟨List.pairwise_cons.2 ⟨i2, i1⟩, fun q hq => ?_⟩
      rcases List.mem_cons.1 hq with rfl | hq
      · exact hb
      · exact bytes_trans' (i2 q hq) hb
theorem lineL_sorted {p : ByteArray} (hv : vpath p = true) : (lineL p).Pairwise fun a b => bytesBefore a.data.toList b.data.toList = true := by
  obtain ⟨h1, h2⟩ := upL_before p.size p (Nat.le_refl _) hv
  unfold lineL
  rw [List.pairwise_append]
  refine ⟨List.pairwise_reverse.2 h1, by simp, fun a ha b hb => ?_⟩
  rw [List.mem_singleton] at hb
  subst hb
  exact h2 a (List.mem_reverse.1 ha)
theorem quoN_path {M : List (Key × Nd)} (hM : MOk M) {q : ByteArray} {n : Nd} (h : n ∈ quoN M q) : n.path = q ∧ mget M q.data.toList = some n ∧ n.has = true := by
  unfold quoN at h
  split at h
  · rename_i m hm
    split at h
    · rename_i hh
      rw [List.mem_singleton] at h
      subst h
      exact ⟨(ba_ext (hM.at hm).1).symm, hm, hh⟩
    · simp at h
  · simp at h
theorem quo_sorted {M : List (Key × Nd)} (hM : MOk M) : ∀ L : List ByteArray, (L.Pairwise fun a b => bytesBefore a.data.toList b.data.toList = true) → (L.flatMap (quoN M)).Pairwise fun a b => bytesBefore (keyN a) (keyN b) = true
  | [], _ => by simp
  | q :: L, h => by
    obtain ⟨h1, h2⟩ := List.pairwise_cons.1 h
    rw [List.flatMap_cons, List.pairwise_append]
    refine ⟨?_, quo_sorted hM L h2, fun a ha b hb => ?_⟩
    · have := quoN_le M q
      match quoN M q, this with
      | [], _ => exact List.Pairwise.nil
      | [x], _ => exact List.pairwise_singleton _ _
      | x :: y :: r, hl => simp at hl
    · obtain ⟨e1, _⟩ := quoN_path hM ha
      obtain ⟨q2, hq2, hb2⟩ := List.mem_flatMap.1 hb
      obtain ⟨e2, _⟩ := quoN_path hM hb2
      unfold keyN
      rw [e1, e2]
      exact h1 q2 hq2

/-- The document's list. -/
def roverL (M : List (Key × Nd)) (s : ByteArray) : List Nd := (nds M).filter fun n => n.has && und s n.path
theorem rover_eq {M : List (Key × Nd)} (hM : MOk M) {s : ByteArray} (hv : vpath s = true) : roverL M s = overL M s := by
  have key : (roverL M s).map (fun n => (keyN n, n)) = (overL M s).map fun n => (keyN n, n) := by
    refine mem_ext_sorted ?_ ?_ fun x => ?_
    · unfold MSorted roverL nds
      rw [List.pairwise_map]
      refine List.Pairwise.filter _ ?_
      rw [List.pairwise_map]
      refine hM.sorted.imp_of_mem fun {a b} ha hb h => ?_
      show bytesBefore (keyN a.2) (keyN b.2) = true
      rw [← hM.key a ha, ← hM.key b hb]; exact h
    · unfold MSorted
      rw [List.pairwise_map]
      unfold overL
      rw [if_pos hv]
      exact quo_sorted hM _ (lineL_sorted hv)
    · simp only [List.mem_map]
      constructor
      · rintro ⟨n, hn, rfl⟩
        refine ⟨n, ?_, rfl⟩
        unfold roverL nds at hn
        obtain ⟨h1, h2⟩ := List.mem_filter.1 hn
        obtain ⟨y, hy, rfl⟩ := List.mem_map.1 h1
        simp only [Bool.and_eq_true] at h2
        have hg : mget M y.2.path.data.toList = some y.2 := mget_of_mem hM.sorted (by have := hM.key y hy; unfold keyN at this; rw [← this]; exact hy)
        unfold overL
        rw [if_pos hv]
        refine List.mem_flatMap.2 ⟨y.2.path, (lineL_und hv _).2 h2.2, ?_⟩
        unfold quoN
        rw [hg]
        simp [h2.1]
      · rintro ⟨n, hn, rfl⟩
        refine ⟨n, ?_, rfl⟩
        obtain ⟨h1, h2, h3⟩ := overL_there hM hn
        unfold roverL nds
        refine List.mem_filter.2 ⟨List.mem_map.2 ⟨_, mget_some_mem h1, rfl⟩, ?_⟩
        simp [h2, h3]
  have := congrArg (List.map (·.2)) key
  rw [List.map_map, List.map_map] at this
  exact (List.map_id _).symm.trans (this.trans (List.map_id _))

/-- The document's bound. -/
def aboveB (used more bound : Int) : Bool := if more ≤ 0 ∨ bound = -1 then false else decide (wrap64 (9223372036854775807 - more) < used) || decide (bound < wrap64 (used + more))
theorem above_pass {used more bound : Int} (hu : 0 ≤ used) (hu2 : used ≤ 9223372036854775807) (hm : more ≤ 9223372036854775807) (hb : -9223372036854775808 ≤ bound) (hb2 : bound ≤ 9223372036854775807) : aboveB used more bound = passB bound used more := by
  unfold aboveB passB
  by_cases h1 : more ≤ 0
  · rw [if_pos (.inl h1), decide_eq_false (show ¬ more > 0 by omega)]
    rfl
  · by_cases h2 : bound = -1
    · rw [if_pos (.inr h2), h2]
      simp
    · have h2' : (bound != -1) = true := by simpa using h2
      rw [if_neg (by rintro (h | h); exact h1 h; exact h2 h), decide_eq_true (show more > 0 by omega), h2', Bool.true_and, Bool.true_and, Bool.eq_iff_iff]
      simp only [Bool.or_eq_true, decide_eq_true_eq]
      unfold wrap64
      by_cases h3 : used > bound
      · exact ⟨fun _ => .inl h3, fun _ => by omega⟩
      · constructor
        · intro h; refine .inr ?_; omega
        · rintro (h | h)
          · exact absurd h h3
          · omega
end Go.Proofs.YtamolbegmkngdaaGreatDoor
namespace Go.Proofs.YtamolbegmkngdaaGreatDoor
open Go.RowKit
set_option maxHeartbeats 4000000
set_option maxRecDepth 100000

/-- What Put answers, and what it makes of the nodes. -/
def putE (M : List (Key × Nd)) (n : Nd) : Int := if rightN n ≠ 0 then rightN n else if (mget M (keyN n)).isSome = true then 0 else 70
def putM (M : List (Key × Nd)) (n : Nd) : List (Key × Nd) := if putE M n = 0 then mput M (keyN n) n else M

theorem KidsAt.put_same {S : Nat → Prop} {w : World} {bn bk : Nat} {K : List (Key × Nat)} {M : List (Key × Nd)} {N : Nat} (h : KidsAt S w bn bk K M N) (hM : MOk M) {n n0 : Nd} (hn : rightN n = 0) (hg : mget M (keyN n) = some n0) : KidsAt S w bn bk K (mput M (keyN n) n) (N + 1) :=
  ⟨h.map, by have := h.len; omega, fun x hx => by rw [kids_put_same hM hn hg]; exact h.each x hx, h.apart, fun p hp => by rw [kids_put_same hM hn hg]; exact h.rest p hp⟩

theorem tput_any (S : Nat → Prop) (w : World) (bt : Nat) (M : List (Key × Nd)) (N : Nat) (hT : TreeAt S w bt M N) (n : Nd) (da aa : Option Addr) (dc ac : Nat) (hu : Tabs w) (hf : Fit n) (hN : N < 4611686018427387904)
    (hD : Cells w.heap.size w da (n.data.map u8v)) (hA : Cells w.heap.size w aa (acCs n.acl)) :
    Calls Tryz.prog 41 #[.pointer (some ⟨bt, 0, none⟩), .agg (ndC n (.slice da n.data.length dc) (.slice aa n.acl.length ac))] w (TreeTo S w bt (putM M n) (N + 1) (.int .i64 (putE M n))) := by
  obtain ⟨W2, hW2⟩ : ∃ W2, W2 = w.alloc (.cells (ndC n (.slice da n.data.length dc) (.slice aa n.acl.length ac)) 47) := ⟨_, rfl⟩
  have he2 : Ext w W2 := by rw [hW2]; exact Ext.alloc _ _
  have hz2 : W2.heap.size = w.heap.size + 1 := by rw [hW2]; simp
  have hn2 : W2.heap[w.heap.size]? = some (.cells (ndC n (.slice da n.data.length dc) (.slice aa n.acl.length ac)) 47 (0, 0)) := by rw [hW2]; exact heap_alloc_new w _
  have hT2 := hT.ext he2
  have hD2 := hD.ext he2
  have hA2 := hA.ext he2
  have hu2 : Tabs W2 := hu.below he2 hu.size
  have CR := right_any n da aa dc ac W2 hf hu2 hA2
  rw [hW2] at CR
  have HW2 := Lib.hid hW2
  have HN := Lib.hid hn2
  have HTW := Lib.hid hT
  have HNW := Lib.hid (hW2 ▸ hn2)
  unfold ndC at CR HW2 HN HNW ⊢
  have CR := Lib.hid CR
  clear hW2 hn2 hT
  by_cases hr : rightN n = 0
  · have hM := hT2.ok
    have HR := Lib.hid hr
    have hps : n.path.size ≤ maxLen := by
      have := (vpath_facts (right_vpath hr)).2.1
      unfold maxLen; omega
    have hvp := right_vpath hr
    have hvf := vpath_facts hvp
    rw [hr] at CR
    clear hr
    go_enter Tryz.func41, Tryz.ntmps41
    go_wp2_with (refine wpList_load_row rfl 47 (.tmp 3) rfl w.heap.size rfl 47 _ (0, 0) _ HNW.out Tryz.underlying47 rfl sizeNd ?_)
    refine CR.out.mono ?_
    rintro e w3 ⟨rfl, hb3⟩
    rw [← HW2.out] at hb3
    have hE3 : Ext W2 w3 := hb3
    have hT3 := hT2.ext hE3
    have hn3 := (hE3.block w.heap.size (by omega)).trans HN.out
    have hD3 := hD2.ext hE3
    have hA3 := hA2.ext hE3
    have hEw3 := he2.trans hE3
    obtain ⟨bn, bk, K, hd, hNd, hKd⟩ := hT3
    clear CR HW2 HN HNW hb3 hz2 hD2 hA2 hu2 hT2
    go_wp2
    refine there_region _ _ _ _ _ _ _ _ _ _ _ _ 0 3 _ 35 rfl (by decide) (by decide) (by decide) hd hNd w.heap.size n.path _ hn3 rfl hps rfl rfl ?_
    intro v0 v1 v2 v3 v4 v5 v6 v7 v8 v9 v10 w4 hE4
    simp only [Act.put]
    go_simp
    rename_i hK
    refine hK _ _ ?_
    have hEw4 := hEw3.trans hE4
    have hT4 : TreeAt S w4 bt M N := TreeAt.ext ⟨bn, bk, K, hd, hNd, hKd⟩ hE4
    have hD4 := hD3.ext hE4
    have hA4 := hA3.ext hE4
    have hn4 := (hE4.block w.heap.size (Array.getElem?_eq_some_iff.1 hn3).1).trans hn3
    clear hd hNd hKd hn3 hD3 hA3 hEw3
    cases hg : mget M n.path.data.toList with
    | none =>
      have hfin : TreeTo S w bt (putM M n) (N + 1) (.int .i64 (putE M n)) (.returned (.int .i64 70)) w4 := by
        have e : putE M n = 70 := by unfold putE; rw [if_neg (by rw [HR.out]; simp), if_neg (by unfold keyN; rw [hg]; simp)]
        have e2 : putM M n = M := by unfold putM; rw [if_neg (by rw [e]; decide)]
        rw [e, e2]
        exact treeTo_same HTW.out hEw4 (by omega) _
      have HFIN := Lib.hid hfin
      clear hfin hT4 hEw4 hD4 hA4 hn4 hg
      go_wp2
      go_ret
      exact HFIN.out
    | some y =>
      have e : putE M n = 0 := by unfold putE; rw [if_neg (by rw [HR.out]; simp), if_pos (by unfold keyN; rw [hg]; rfl)]
      have e2 : putM M n = mput M (keyN n) n := by unfold putM; rw [if_pos e]
      obtain ⟨bn, bk, K, hd, hNd, hKd⟩ := HTW.out
      obtain ⟨m, hm, hr⟩ := hNd.ex
      have hml : m.length ≤ N := by rw [← hr.length]; exact hNd.len
      have hfit := right_fit HR.out
      have hbt4 : w4.heap[bt]? = some (.cells (treeC bn bk) 118 (0, 0)) := (hEw4.block bt (hd.bound _ hd.st)).trans hd.blk
      have hm4 : SMap Tryz.prog 9 w4 bn m := hm.keep (hEw4.block bn (hd.bound _ hd.sn))
      have HG := Lib.hid hg
      have HEE := Lib.hid (And.intro e e2)
      have hz4 := hEw4.size
      have hbl4 := (Array.getElem?_eq_some_iff.1 hn4).1
      clear hg e e2 hT4
      go_wp2
      have hen := fun (f : FuncId) (fn : Func) (c : Code) (hf : Tryz.prog.funcs[f]? = some fn) (hname : (fn.name == "runtime.NumGoroutine") = false) (hb : fn.body = some c) => enters_f hf hname hb
      refine wp_region_last_e 35 (by kernel_rfl) (PhiL w.heap.size bt bn n (ndC n (.slice da n.data.length dc) (.slice aa n.acl.length ac))) (PhiL.stab _ _ _ _ _) (by decide) rfl 8 _ rfl rfl rfl rfl ?_ ?fin
      · refine ⟨?_, ?_, ?_, ?_, ?_, ?_, ?_, ?_, trivial⟩
        · exact duty_free rfl fun a w' hE hF hA => wp_value (w' := w') (ex_move rfl) ⟨_, rfl, hF.slot 0 _ (by decide) rfl, Ext.refl _⟩
        · refine duty_free rfl fun a w' hE hF hA => ?_
          have x1 : a.eval (.tmp 27) = _ := hA.slot 0 27 rfl rfl ⟨⟨0, .data⟩, by simp, rfl, rfl⟩
          exact wp_value (ex_nilCheck rfl _ x1) ⟨_, rfl, rfl, Ext.refl _⟩
        · refine duty_free rfl fun a w' hE hF hA => ?_
          have x1 : a.eval (.tmp 28) = _ := hA.slot 1 28 rfl rfl ⟨⟨1, .data⟩, by simp, rfl, rfl⟩
          exact wp_value (v := .pointer (some ⟨bt, 0, none⟩)) (w' := w') (by simp only [execOp, x1]; simp [go_sem]) ⟨_, rfl, rfl, Ext.refl _⟩
        · refine duty_free rfl fun a w' hE hF hA => ?_
          have x1 : a.eval (.tmp 29) = _ := hA.slot 2 29 rfl rfl ⟨⟨2, .data⟩, by simp, rfl, rfl⟩
          refine wp_value (ex_cell rfl _ (.map (some bn)) x1 ?_ rfl Tryz.underlying115) ⟨_, rfl, rfl, Ext.refl _⟩
          exact cell_of_row w' bt 0 _ _ _ ((hE.block bt (Array.getElem?_eq_some_iff.1 hbt4).1).trans hbt4)
        · refine duty_free rfl fun a w' hE hF hA => ?_
          have x1 : a.eval (.tmp 3) = _ := hF.slot 3 (.pointer (some ⟨w.heap.size, 0, none⟩)) (by decide) rfl
          exact wp_value (v := .pointer (some ⟨w.heap.size, 0, none⟩)) (w' := w') (by simp only [execOp, x1]; simp [go_sem]) ⟨_, rfl, rfl, Ext.refl _⟩
        · refine duty_free rfl fun a w' hE hF hA => ?_
          have x1 : a.eval (.tmp 31) = _ := hA.slot 4 31 rfl rfl ⟨⟨4, .data⟩, by simp, rfl, rfl⟩
          refine wp_value (ex_cell rfl _ (.string n.path) x1 ?_ rfl Tryz.underlying9) ⟨_, rfl, rfl, Ext.refl _⟩
          exact cell_of_row w' w.heap.size 0 _ _ _ ((hE.block w.heap.size hbl4).trans hn4)
        · refine duty_free rfl fun a w' hE hF hA => ?_
          have x1 : a.eval (.tmp 3) = _ := hF.slot 3 (.pointer (some ⟨w.heap.size, 0, none⟩)) (by decide) rfl
          exact wp_value (ex_load_row rfl w.heap.size x1 47 _ (0, 0) _ ((hE.block w.heap.size hbl4).trans hn4) Tryz.underlying47 rfl sizeNd) ⟨_, rfl, rfl, Ext.refl _⟩
        · refine duty_free rfl fun a w' hE hF hA => ?_
          have x1 : a.eval (.tmp 33) = _ := hA.slot 6 33 rfl rfl ⟨⟨6, .data⟩, by simp, rfl, rfl⟩
          refine wp_enter (ex_call rfl (hen _ _ _ Tryz.func100 (by kernel_rfl) rfl)) (by simp only [List.map_toArray, List.map_cons, List.map_nil, x1]; exact sclone_nd n da aa dc ac w' hfit.1 (hD4.ext hE) (hA4.ext hE)) ?_
          rintro e w5 ⟨v, rfl, hv, hb⟩
          exact ⟨_, rfl, v, rfl, hv.imp (fun b hb' => ⟨by have := hE.size; omega, hb'.2⟩) (fun _ _ _ _ h => h), hb⟩
      case fin =>
        intro us w2 hE hl hP
        have hl' : us.length = 8 := by simpa using hl
        obtain ⟨u0, u1, u2, u3, u4, u5, u6, u7, rfl⟩ := us8 us hl'
        have h3 : u3 = .map (some bn) := hP 3 u3 rfl
        have h5 : u5 = .string n.path := hP 5 u5 rfl
        have h7 : NdS (fun b => w.heap.size < b ∧ b < w2.heap.size) w2 u7 n := hP 7 u7 rfl
        subst h3 h5
        clear hP hl hl' hen
        have hm2 : SMap Tryz.prog 9 w2 bn m := hm4.keep (hE.block bn (by have := hd.bound _ hd.sn; omega))
        have q1 : m.length < maxLen := by unfold maxLen; omega
        have hQ := SMap.store hm2 strT Tryz.underlying115 q1 hps u7
        have hQ1 := hQ.choose_spec
        generalize hQ.choose = w3 at hQ1
        have hrun := hQ1.1
        have hs3 := hQ1.2.1
        have ht3 := hQ1.2.2
        clear hQ1 hQ
        have he2 : Ext w w2 := hEw4.trans hE
        have hNn := lay_nodes hd hNd hm hr he2 HR.out h7 hs3 ht3
        have hKn := lay_kids hd hKd he2 ht3
        have hMod : Mod S w w3 := (Mod.of_ext he2).trans (Mod.turned ht3 hd.sn)
        have hw3 : w.heap.size ≤ w3.heap.size := hMod.size
        have hbl : w3.heap[bt]? = some (.cells (treeC bn bk) 118 (0, 0)) := hMod.cells hd.blk
        have fin : TreeTo S w bt (putM M n) (N + 1) (.int .i64 (putE M n)) (.returned (.int .i64 0)) w3 := by
          rw [HEE.out.1, HEE.out.2]
          exact ⟨rfl, ⟨bn, bk, K, ⟨hbl, .inl hd.st, .inl hd.sn, .inl hd.sk, hd.ne, fun k hk => hk.elim (fun h => Nat.lt_of_lt_of_le (hd.bound k h) hw3) (fun h => h.2)⟩, hNn,
            (hKn.put_same hNd.ok HR.out HG.out).keep rfl (fun _ h => .inl h) (fun _ _ => rfl) (Nat.le_refl _)⟩, hMod⟩
        have FIN := Lib.hid fin
        clear fin hMod hNn hKn hs3 ht3 h7 he2 hbl hm2 hm4 hn4 hD4 hA4 hbt4 hE hr
        simp only [filled, List.take_succ_cons, List.take_zero, List.zip_cons_cons, List.zip_nil_right, List.foldl_cons, List.foldl_nil, Act.put]
        go_simp
        rename_i hK
        refine hK _ _ ?_
        clear hrun
        go_wp2
        go_ret
        exact FIN.out
  · have hne : (rightN n != 0) = true := by simpa using hr
    have e : putE M n = rightN n := by unfold putE; rw [if_pos hr]
    have e2 : putM M n = M := by unfold putM; rw [if_neg (by rw [e]; exact hr)]
    have E1 := Lib.hid e
    have E2 := Lib.hid e2
    clear hr e e2
    go_enter Tryz.func41, Tryz.ntmps41
    go_wp2_with (refine wpList_load_row rfl 47 (.tmp 3) rfl w.heap.size rfl 47 _ (0, 0) _ HNW.out Tryz.underlying47 rfl sizeNd ?_)
    refine CR.out.mono ?_
    rintro e w3 ⟨rfl, hb3⟩
    rw [← HW2.out] at hb3
    have hfin : TreeTo S w bt (putM M n) (N + 1) (.int .i64 (putE M n)) (.returned (.int .i64 (rightN n))) w3 := by
      rw [E1.out, E2.out]
      exact treeTo_same HTW.out (he2.trans hb3) (by omega) _
    have HFIN := Lib.hid hfin
    clear hfin CR hb3 hT2 hD2 hA2 HN HNW HW2 hu2
    go_wp2
    go_ret
    exact HFIN.out
end Go.Proofs.YtamolbegmkngdaaGreatDoor
namespace Go.Proofs.YtamolbegmkngdaaGreatDoor
open Go.ChangeShapes Go.WideShapes Go.ChangeAt Go.RowKit Go.Deep
set_option maxHeartbeats 2000000
set_option maxRecDepth 100000

/-- A node's numbers are what their types hold. -/
def Ir (n : Nd) : Prop := (∀ z ∈ [n.owner, n.czxid, n.mzxid, n.pzxid, n.azxid, n.qzxid, n.ctime, n.mtime, n.count, n.bytes], (Lit.int .i64 z).wf = true) ∧ ∀ z ∈ [n.version, n.creates, n.aversion], (Lit.int .i32 z).wf = true
theorem wf_i64 {z : Int} (h : (Lit.int .i64 z).wf = true) : -9223372036854775808 ≤ z ∧ z ≤ 9223372036854775807 := by
  simp [Lit.wf, IntKind.wrap] at h
  first | omega | exact h | (have := h; unfold wrap64 at this; omega)

section
variable {H : Type} {enc : TypeId × Value → H} {w : World} {fuel : Nat}
theorem node_rng {n : Nd} {da aa : Option Addr} {dc ac : Nat} {x : DataW H × List MemPlace} (h : DataW.trod enc Tryz.prog w 0 (fun _ => true) true fuel 47 (ndC n (.slice da n.data.length dc) (.slice aa n.acl.length ac)).toList = some x) : Ir n := by
  obtain ⟨xs, m, _, rfl, hl, hn, hf⟩ := DataW.trod_struct Tryz.underlying47 h
  match xs, hn with
  | [x0, x1, x2, x3, x4, x5, x6, x7, x8, x9, x10, x11, x12, x13, x14], _ =>
    have f3 := hf 3 _ rfl
    have f4 := hf 4 _ rfl
    have f5 := hf 5 _ rfl
    have f6 := hf 6 _ rfl
    have f7 := hf 7 _ rfl
    have f8 := hf 8 _ rfl
    have f9 := hf 9 _ rfl
    have f10 := hf 10 _ rfl
    have f11 := hf 11 _ rfl
    have f12 := hf 12 _ rfl
    have f13 := hf 13 _ rfl
    have f14 := hf 14 _ rfl
    clear hf h
    unfold ndC at f3 f4 f5 f6 f7 f8 f9 f10 f11 f12 f13 f14
    simp [Tryz.cells_str, Tryz.cells_u8s, Tryz.cells_acls, Tryz.cells_i64, Tryz.cells_i32, Tryz.cells_quota] at f3 f4 f5 f6 f7 f8 f9 f10 f11 f12 f13 f14
    obtain ⟨z3, e3, _, r3⟩ := DataW.trod_int Tryz.underlying2 f3
    obtain ⟨z4, e4, _, r4⟩ := DataW.trod_int Tryz.underlying2 f4
    obtain ⟨z5, e5, _, r5⟩ := DataW.trod_int Tryz.underlying2 f5
    obtain ⟨z6, e6, _, r6⟩ := DataW.trod_int Tryz.underlying2 f6
    obtain ⟨z7, e7, _, r7⟩ := DataW.trod_int Tryz.underlying2 f7
    obtain ⟨z8, e8, _, r8⟩ := DataW.trod_int Tryz.underlying2 f8
    obtain ⟨z9, e9, _, r9⟩ := DataW.trod_int Tryz.underlying2 f9
    obtain ⟨z10, e10, _, r10⟩ := DataW.trod_int Tryz.underlying2 f10
    obtain ⟨z11, e11, _, r11⟩ := DataW.trod_int Tryz.underlying21 f11
    obtain ⟨z12, e12, _, r12⟩ := DataW.trod_int Tryz.underlying21 f12
    obtain ⟨z13, e13, _, r13⟩ := DataW.trod_int Tryz.underlying21 f13
    obtain ⟨q0, q1, q2, m2, _, _, g0, g1, g2⟩ := trod_struct3 Tryz.underlying45 f14
    simp only [Tryz.cells_bool, Tryz.cells_i64, List.drop_succ_cons, List.drop_zero, List.take_succ_cons, List.take_zero] at g0 g1 g2
    obtain ⟨z15, e15, _, r15⟩ := DataW.trod_int Tryz.underlying2 g1
    obtain ⟨z16, e16, _, r16⟩ := DataW.trod_int Tryz.underlying2 g2
    simp only [List.cons.injEq, and_true, Value.int.injEq, true_and] at e3 e4 e5 e6 e7 e8 e9 e10 e11 e12 e13 e15 e16
    subst e3 e4 e5 e6 e7 e8 e9 e10 e11 e12 e13 e15 e16
    refine ⟨fun z hz => ?_, fun z hz => ?_⟩
    · simp only [List.mem_cons, List.not_mem_nil, or_false] at hz
      rcases hz with rfl | rfl | rfl | rfl | rfl | rfl | rfl | rfl | rfl | rfl <;> assumption
    · simp only [List.mem_cons, List.not_mem_nil, or_false] at hz
      rcases hz with rfl | rfl | rfl <;> assumption

/-- A slice of nodes, opened. -/
theorem open_nodes_r {v : Value} {x : DataW H × List MemPlace} (h : DataW.trod enc Tryz.prog w 0 (fun _ => true) true fuel 22 [v] = some x) (hz : Light 22 x.1) :
    ∃ (l : List Nd) (a : Option Addr) (cap : Nat), v = .slice a l.length cap ∧ l.length * 168 ≤ 140737488355328 ∧ (∀ n ∈ l, Fit n ∧ Ir n) ∧ NdsAt w.heap.size w a l ∧ l.length ≤ cap := by
  rcases open_slice Tryz.underlying22 h with ⟨hcs, rfl⟩ | ⟨a, len, cap, m, n, D, Pl, hcs, _, hl, hm, hmm, rfl, hx⟩
  · simp only [List.cons.injEq, and_true] at hcs
    subst hcs
    exact ⟨[], none, 0, rfl, by simp, by simp, fun i n h => (by simp at h), by simp⟩
  · simp only [List.cons.injEq, and_true] at hcs
    subst hcs
    simp only [if_true] at hmm
    subst hmm
    have hw := light_len Tryz.underlying22 hz
    rw [Tryz.bytes_node] at hw
    simp only [List.length_map, List.length_range] at hw
    obtain ⟨X, hX⟩ := choose_lt (n := len) (p := fun i (n : Nd) => ∃ v, NdV w.heap.size w v n ∧ (∀ r u, v.cells[r]? = some u → w.cell? ((a.add (i * 17)).add r) = some u) ∧ (Fit n ∧ Ir n) ∧ v.cells[0]? ≠ none) fun i hi => by
      obtain ⟨cs', h1, h2⟩ := hx i (by omega)
      obtain ⟨n, da, aa, dc, ac, rfl, hf, hD, hA⟩ := open_node h2 (light_elem Tryz.underlying22 hz (List.mem_map.2 ⟨i, List.mem_range.2 hi, rfl⟩))
      rw [Tryz.cells_node] at h1
      obtain ⟨_, _, h3⟩ := World.cells?_some h1
      refine ⟨n, _, ⟨da, dc, aa, ac, rfl, hD, hA⟩, fun r u hr => ?_, ⟨hf, node_rng h2⟩, fun h => by cases h⟩
      have hr' : (ndC n (.slice da n.data.length dc) (.slice aa n.acl.length ac))[r]? = some u := hr
      rw [h3 r (by have := (Array.getElem?_eq_some_iff.1 hr').1; simpa [ndC] using this)]
      simpa using hr'
    refine ⟨(List.range len).map X, some a, m, by simp, by simp; omega, fun x hx' => ?_, fun j n hj => ?_, by simp; omega⟩
    · obtain ⟨i, hi, rfl⟩ := List.mem_map.1 hx'
      obtain ⟨_, _, _, h, _⟩ := hX i (List.mem_range.1 hi)
      exact h
    · simp only [List.getElem?_map] at hj
      by_cases hi : j < len
      · rw [List.getElem?_range hi] at hj
        simp only [Option.map_some, Option.some.injEq] at hj
        subst hj
        obtain ⟨v, hv, hc, _, _⟩ := hX j hi
        obtain ⟨_, _, hc00, _, h0⟩ := hX 0 (by omega)
        obtain ⟨u0, hu0⟩ := Option.ne_none_iff_exists'.1 h0
        have hc0 := hc00 0 _ hu0
        have hsp := World.cell?_spot hc0
        have hlt := World.block_lt_of_cell? _ _ hc0
        obtain ⟨b, off, sp⟩ := a
        obtain rfl : sp = none := by simpa [Addr.add] using hsp
        refine ⟨b, off, v, rfl, by simpa [Addr.add] using hlt, hv, fun r u hr => ?_⟩
        have := hc r u hr
        rw [add_plain, add_plain] at this
        rw [← this]
      · rw [List.getElem?_eq_none (by simp; omega)] at hj
        simp at hj
end
end Go.Proofs.YtamolbegmkngdaaGreatDoor
namespace Go.Proofs.YtamolbegmkngdaaGreatDoor
open Go.RowKit
set_option maxHeartbeats 1000000

theorem fromL_distinct : ∀ (l : List Nd) (i : Nat) (M0 : List (Key × Nd)), MOk M0 → (∀ n ∈ l, rightN n = 0) → (l.map keyN).Nodup → (∀ n ∈ l, mget M0 (keyN n) = none) → ∃ M1, fromL l i M0 = .ok M1 ∧ MOk M1 ∧ ∀ x, x ∈ M1 ↔ x ∈ M0 ∨ ∃ n ∈ l, x = (keyN n, n)
  | [], i, M0, h0, _, _, _ => ⟨M0, rfl, h0, fun x => by simp⟩
  | n :: l, i, M0, h0, hr, hd, hn => by
    rw [List.map_cons] at hd
    obtain ⟨d1, d2⟩ := List.nodup_cons.1 hd
    have hr0 := hr n (List.mem_cons_self ..)
    have hn0 := hn n (List.mem_cons_self ..)
    have hne : ∀ m ∈ l, keyN m ≠ keyN n := fun m hm e => d1 (e ▸ List.mem_map.2 ⟨m, hm, rfl⟩)
    obtain ⟨M1, e1, e2, e3⟩ := fromL_distinct l (i + 1) (mput M0 (keyN n) n) (h0.put n hr0) (fun m hm => hr m (List.mem_cons_of_mem _ hm)) d2 (fun m hm => mget_none_of fun x hx e => by
      rcases mem_mput.1 hx with rfl | ⟨hx, _⟩
      · exact hne m hm e.symm
      · exact mget_none (hn m (List.mem_cons_of_mem _ hm)) x hx e)
    refine ⟨M1, ?_, e2, fun x => ?_⟩
    · unfold fromL
      rw [if_neg (by simpa using hr0), if_neg (by rw [hn0]; simp)]
      exact e1
    · rw [e3, mem_mput]
      constructor
      · rintro ((rfl | ⟨h, _⟩) | ⟨m, hm, rfl⟩)
        · exact .inr ⟨n, List.mem_cons_self .., rfl⟩
        · exact .inl h
        · exact .inr ⟨m, List.mem_cons_of_mem _ hm, rfl⟩
      · rintro (h | ⟨m, hm, rfl⟩)
        · exact .inl (.inr ⟨h, mget_none hn0 x h⟩)
        · rcases List.mem_cons.1 hm with rfl | hm
          · exact .inl (.inl rfl)
          · exact .inr ⟨m, hm, rfl⟩
theorem parL_ok {M : List (Key × Nd)} : ∀ (l : List Nd) (i : Nat), (∀ n ∈ l, n.path.size ≠ 1 → mget M (parentB n.path).data.toList ≠ none) → parL M l i = .ok ()
  | [], _, _ => rfl
  | n :: l, i, h => by
    unfold parL
    rw [if_neg fun hh => h n (List.mem_cons_self ..) hh.1 hh.2]
    exact parL_ok l (i + 1) fun m hm => h m (List.mem_cons_of_mem _ hm)

/-- A list with just a tree's nodes, each once. -/
theorem fromN_perm {M : List (Key × Nd)} (hM : MOk M) (hc : Clo M) (hroot : mget M [47] ≠ none) {L : List Nd} (h1 : ∀ n ∈ L, (keyN n, n) ∈ M) (h2 : ∀ x ∈ M, x.2 ∈ L) (hd : (L.map keyN).Nodup) : fromN L = .ok M := by
  obtain ⟨M1, e1, e2, e3⟩ := fromL_distinct L 0 [] MOk.nil (fun n hn => hM.right _ (h1 n hn)) hd (fun n _ => rfl)
  have he : M1 = M := mem_ext_sorted e2.sorted hM.sorted fun x => by
    rw [e3]
    constructor
    · rintro (h | ⟨n, hn, rfl⟩)
      · simp at h
      · exact h1 n hn
    · intro hx
      refine .inr ⟨x.2, h2 x hx, ?_⟩
      rw [← hM.key x hx]
  subst he
  unfold fromN
  rw [e1]
  simp only
  rw [if_neg hroot, parL_ok L 0 fun n hn hs => ?_]
  obtain ⟨y, hy, ey⟩ := hc _ (h1 n hn) hs
  rw [← ey]
  rw [there_of hM hy]
  simp

/-- The place i of the list that is turned by k: of n places. -/
def rotI (n k i : Nat) : Nat := if i + k < n then i + k else i + k - n
theorem rotI_mod {n k i : Nat} (hk : k < n) (hi : i < n) : (i + k) % n = rotI n k i := by
  unfold rotI
  split
  · rename_i h; exact Nat.mod_eq_of_lt h
  · rename_i h
    rw [Nat.mod_eq_sub_mod (by omega), Nat.mod_eq_of_lt (by omega)]
theorem rotI_lt {n k i : Nat} (hk : k < n) (hi : i < n) : rotI n k i < n := by unfold rotI; split <;> omega
theorem rotI_inj {n k i j : Nat} (hk : k < n) (hi : i < n) (hj : j < n) (h : rotI n k i = rotI n k j) : i = j := by
  unfold rotI at h
  split at h <;> split at h <;> omega
theorem rotI_onto {n k t : Nat} (hk : k < n) (ht : t < n) : ∃ i, i < n ∧ rotI n k i = t := by
  by_cases h : k ≤ t
  · exact ⟨t - k, by omega, by unfold rotI; rw [if_pos (by omega)]; omega⟩
  · exact ⟨t + n - k, by omega, by unfold rotI; rw [if_neg (by omega)]; omega⟩

/-- The list from behind, turned by k: its first j places. -/
def rotL (L : List Nd) (k : Nat) : Nat → List Nd
  | 0 => []
  | j + 1 => rotL L k j ++ [(L[rotI L.length k (L.length - 1 - j)]?).getD zeroN]
theorem rotL_length (L : List Nd) (k : Nat) : ∀ j, (rotL L k j).length = j
  | 0 => rfl
  | j + 1 => by unfold rotL; rw [List.length_append, rotL_length L k j]; rfl
theorem rotL_get (L : List Nd) (k : Nat) : ∀ (j i : Nat), i < j → (rotL L k j)[i]? = some ((L[rotI L.length k (L.length - 1 - i)]?).getD zeroN)
  | 0, i, h => by omega
  | j + 1, i, h => by
    unfold rotL
    by_cases e : i < j
    · rw [List.getElem?_append_left (by rw [rotL_length]; exact e)]
      exact rotL_get L k j i e
    · obtain rfl : i = j := by omega
      rw [List.getElem?_append_right (by rw [rotL_length]; exact Nat.le_refl _), rotL_length, Nat.sub_self]
      rfl
theorem rotL_at {L : List Nd} {k : Nat} (hk : k < L.length) {i : Nat} (hi : i < L.length) : (rotL L k L.length)[i]? = L[rotI L.length k (L.length - 1 - i)]? := by
  rw [rotL_get L k L.length i hi]
  have := rotI_lt hk (show L.length - 1 - i < L.length by omega)
  rw [List.getElem?_eq_getElem this]
  rfl

theorem rot_from {M : List (Key × Nd)} (hM : MOk M) (hc : Clo M) (hroot : mget M [47] ≠ none) {k : Nat} (hk : k < (M.map (·.2)).length) : fromN (rotL (M.map (·.2)) k (M.map (·.2)).length) = .ok M := by
  generalize hL : M.map (·.2) = L at *
  have hmem : ∀ n ∈ L, (keyN n, n) ∈ M := fun n hn => by
    rw [← hL] at hn
    obtain ⟨x, hx, rfl⟩ := List.mem_map.1 hn
    rw [← hM.key x hx]; exact hx
  have hkey : ∀ i j (hi : i < L.length) (hj : j < L.length), keyN L[i] = keyN L[j] → i = j := fun i j hi hj e => by
    subst hL
    simp only [List.length_map] at hi hj
    simp only [List.getElem_map] at e
    rw [← hM.key _ (List.getElem_mem hi), ← hM.key _ (List.getElem_mem hj)] at e
    rcases Nat.lt_trichotomy i j with h | h | h
    · have := sorted_at hM.sorted h hj
      rw [e] at this; exact (before_asymm this this).elim
    · exact h
    · have := sorted_at hM.sorted h hi
      rw [e] at this; exact (before_asymm this this).elim
  refine fromN_perm hM hc hroot (fun n hn => ?_) (fun x hx => ?_) ?_
  · obtain ⟨i, hi, ei⟩ := List.getElem_of_mem hn
    rw [rotL_length] at hi
    have h := rotL_at hk hi
    have hlt := rotI_lt hk (show L.length - 1 - i < L.length by omega)
    rw [List.getElem?_eq_getElem (by rw [rotL_length]; exact hi), ei, List.getElem?_eq_getElem hlt] at h
    rw [Option.some.inj h]
    exact hmem _ (List.getElem_mem hlt)
  · have hx' : x.2 ∈ L := by rw [← hL]; exact List.mem_map.2 ⟨x, hx, rfl⟩
    obtain ⟨t, ht, et⟩ := List.getElem_of_mem hx'
    obtain ⟨i, hi, hr⟩ := rotI_onto hk ht
    have h := rotL_at hk (show L.length - 1 - i < L.length by omega)
    rw [show L.length - 1 - (L.length - 1 - i) = i by omega, hr, List.getElem?_eq_getElem ht, et] at h
    exact List.mem_of_getElem? h
  · unfold List.Nodup
    rw [List.pairwise_map, List.pairwise_iff_getElem]
    intro i j hi hj hij
    rw [rotL_length] at hi hj
    have h1 := rotL_at hk hi
    have h2 := rotL_at hk hj
    have l1 := rotI_lt hk (show L.length - 1 - i < L.length by omega)
    have l2 := rotI_lt hk (show L.length - 1 - j < L.length by omega)
    rw [List.getElem?_eq_getElem (by rw [rotL_length]; exact hi), List.getElem?_eq_getElem l1] at h1
    rw [List.getElem?_eq_getElem (by rw [rotL_length]; exact hj), List.getElem?_eq_getElem l2] at h2
    rw [Option.some.inj h1, Option.some.inj h2]
    intro e
    have := rotI_inj hk (show L.length - 1 - i < L.length by omega) (show L.length - 1 - j < L.length by omega) (hkey _ _ l1 l2 e)
    omega

/-- Everything is under the root. -/
theorem und_root {M : List (Key × Nd)} (hM : MOk M) (hc : Clo M) : ∀ (f : Nat) (x : Key × Nd), x ∈ M → x.2.path.size ≤ f → und x.2.path ⟨#[47]⟩ = true
  | 0, x, hx, hf => by have := hM.pos hx; omega
  | f + 1, x, hx, hf => by
    by_cases h1 : x.2.path.size = 1
    · rw [und_one hM hx h1]
      have := (root_iff (right_vpath (hM.right x hx))).1 h1
      rw [show x.2.path = ⟨#[47]⟩ from ba_ext this]
      rfl
    · obtain ⟨y, hy, ey⟩ := hc x hx h1
      have hs := (path_split (right_vpath (hM.right x hx)) h1).2.2.1
      rw [und_up hM hc hx hy h1 ey, und_root hM hc f y hy (by rw [ey]; omega), Bool.or_true]
theorem undK_root {M : List (Key × Nd)} (hM : MOk M) (hc : Clo M) : (undK M ⟨#[47]⟩).length = M.length := by
  unfold undK
  rw [List.length_map, List.filter_eq_self.2 fun x hx => und_root hM hc _ x hx (Nat.le_refl _)]
end Go.Proofs.YtamolbegmkngdaaGreatDoor
