/- A region that draws its order, whose operations' values are either told or have a property that new memory leaves. The walks of quota.Text and arborref10.Text. The walk of arborref10.Parse. The walk of quota.Parse. The walk of a node's copy, as the reference has it. The walk of Count. The walk of the law's own small tree. A tree is cut down from the last path on: what is left. Plain laws: when two structs are equal, as the model has it. The walks of the reference's look whether two nodes are alike. What the rounds of TreeWalks keep. Small laws on memory: a store into the middle of a row; what changes but for a set of blocks; an append to a row of the call's own, in a region that draws. Rows that show nodes: what they hold, their first places and those behind them, rows of the call's own; a slice of a slice. The document's tree, plainly: a list of nodes in order; where a path stands in it. -/
import Derived.Test.YthinpbdbhijbgaaGreatDoorJQuotaTexts5
import Derived.Test.YthinpbdbhijbgaaGreatDoorJQuotaTexts4
import Derived.Test.YthinpbdbhijbgaaGreatDoorShelf
import Derived.Test.YthinpbdbhijbgaaGreatDoorJQuotaTexts2
import Derived.Lib.SmallJoins
import Derived.Test.YthinpbdbhijbgaaGreatDoorJQuotaTexts1
import Derived.Deep.RegionLaw
namespace Go.Proofs.YthinpbdbhijbgaaGreatDoor
open Go.RowKit
inductive Sp where
  | val (v : Value)
  | prop (p : Value → World → Prop)
def Sp.ok : Sp → Value → World → Prop
  | .val x, v, _ => v = x
  | .prop p, v, w => p v w
def spP (l : List Sp) (i : Nat) (v : Value) (w : World) : Prop := match l[i]? with
  | some s => s.ok v w
  | none => False
/-- The properties stay. -/
def stayS : List Sp → Prop
  | [] => True
  | .val _ :: r => stayS r
  | .prop p :: r => (∀ v w w', p v w → Ext w w' → p v w') ∧ stayS r
theorem stayS.at : ∀ {l : List Sp}, stayS l → ∀ (i : Nat) (s : Sp), l[i]? = some s → ∀ v w w', s.ok v w → Ext w w' → s.ok v w'
  | [], _, i, s, h, _, _, _, _, _ => by simp at h
  | .val _ :: r, h, 0, s, hs, v, w, w', hv, _ => by simp at hs; subst hs; exact hv
  | .prop p :: r, h, 0, s, hs, v, w, w', hv, hE => by simp at hs; subst hs; exact h.1 v w w' hv hE
  | .val _ :: r, h, i + 1, s, hs, v, w, w', hv, hE => stayS.at (l := r) h i s (by simpa using hs) v w w' hv hE
  | .prop p :: r, h, i + 1, s, hs, v, w, w', hv, hE => stayS.at (l := r) h.2 i s (by simpa using hs) v w w' hv hE
/-- For all values that are as told. -/
def forS : List Sp → World → (List Value → Prop) → Prop
  | [], _, K => K []
  | .val v :: r, w, K => forS r w fun t => K (v :: t)
  | .prop p :: r, w, K => ∀ u, p u w → forS r w fun t => K (u :: t)
theorem forS_all : ∀ (l : List Sp) (w : World) (K : List Value → Prop), forS l w K → ∀ us : List Value, us.length = l.length → (∀ i u, us[i]? = some u → spP l i u w) → K us
  | [], w, K, h, us, hl, _ => by
    obtain rfl := List.eq_nil_of_length_eq_zero (by simpa using hl)
    exact h
  | .val v :: r, w, K, h, [], hl, _ => by simp at hl
  | .prop v :: r, w, K, h, [], hl, _ => by simp at hl
  | .val v :: r, w, K, h, u :: us, hl, hP => by
    have hu : u = v := hP 0 u rfl
    subst hu
    exact forS_all r w _ h us (by simpa using hl) fun i x hx => hP (i + 1) x (by simpa using hx)
  | .prop p :: r, w, K, h, u :: us, hl, hP => by
    have hu : p u w := hP 0 u rfl
    exact forS_all r w _ (h u hu) us (by simpa using hl) fun i x hx => hP (i + 1) x (by simpa using hx)
section
variable {P : Program} {ops : Array Oper} {Q : Exit → Act → World → Prop} {a0 : Act} {w0 : World}
theorem Ahead.pick {Φ : Nat → Value → World → Prop} {o p : Oper} {a : Act} {w : World} (h : Ahead ops Φ o a w) (j : Nat) (d : Tmp) (v : Value) (hp : ops[j]? = some p) (hd : p.dst = some d) (he : ∃ e ∈ o.after.toList, e.on = j ∧ Region.binds .any e = true) (hv : ∀ u, Φ j u w → u = v) : a.eval (.tmp d) = v :=
  hv _ (h.slot j d hp hd he)
theorem region_sp (m : Nat) (sp : List Sp) (hst : stayS sp) (hlen : sp.length = ops.toList.length) (hchk : (dstsOk ops && aheadB ops && (ops.toList.all fun o => o.dst.any fun d => decide (d < m))) = true) (hsz : a0.tmps.size = m)
    (hd : Duties P ops Q (spP sp) a0 w0 0 ops.toList)
    (hend : ∀ w, Ext w0 w → forS sp w fun us => Q .normal (filled ops.toList us a0) w) : RegionP P ops Q a0 w0 := by
  have hall := hchk
  simp only [Bool.and_eq_true] at hall
  refine region_rel_e m Ext Ext.refl (fun _ _ _ => Ext.trans) Ext.drew (spP sp) (fun i v w w' h hE => ?_) (fun i v w h ho => ?_) ?_ hsz (duties_rel _ _ hd) fun us w hE hl hP => ?_
  · unfold spP at h ⊢
    cases hs : sp[i]? with
    | none => rw [hs] at h; exact h.elim
    | some s => rw [hs] at h; exact hst.at i s hs v w w' h hE
  · exfalso
    cases hoi : ops[i]? with
    | none => rw [hoi] at ho; cases ho
    | some o =>
      rw [hoi] at ho
      have := List.all_eq_true.1 hall.2 o (List.mem_of_getElem? (i := i) (by simpa using hoi))
      cases hd : o.dst with
      | none => rw [hd] at this; cases this
      | some d => simp [hd] at ho
  · simp only [Bool.and_eq_true]
    refine ⟨hall.1, List.all_eq_true.2 fun o ho => ?_⟩
    have := List.all_eq_true.1 hall.2 o ho
    cases hd : o.dst with
    | none => rfl
    | some d => rw [hd] at this; simpa using this
  · exact forS_all sp w _ (hend w hE) us (by rw [hl, hlen]) hP
/-- The same, but for the last operation, which all others are ahead of: it may turn what it likes. -/
theorem region_sp_last (m : Nat) (sp : List Sp) (hst : stayS sp) (k : Nat) (ol : Oper) (hk : ops[k]? = some ol) (hks : ops.size = k + 1) (hlen : sp.length = k) (hg : ol.guard = none) (hdn : ol.dst = none)
    (hchk : (dstsOk ops && aheadB ops && coverOk ops && ((ops.toList.take (ops.size - 1)).all fun o => o.dst.any fun d => decide (d < m))) = true) (hsz : a0.tmps.size = m)
    (hd : Duties P ops Q (spP sp) a0 w0 0 (ops.toList.take k))
    (hlast : ∀ w, Ext w0 w → forS sp w fun us => ol.wp P (filled (ops.toList.take k) us a0) w (fun a' w' => Q .normal a' w') Q) : RegionP P ops Q a0 w0 := by
  refine region_last_e m (spP sp) (fun i v w w' h hE => ?_) hchk hsz k ol hk hks hg hdn hd fun us w hE hl hP => ?_
  · unfold spP at h ⊢
    cases hs : sp[i]? with
    | none => rw [hs] at h; exact h.elim
    | some s => rw [hs] at h; exact hst.at i s hs v w w' h hE
  · exact forS_all sp w _ (hlast w hE) us (by rw [hl, List.length_take, Array.length_toList, hks, hlen]; omega) hP
end
end Go.Proofs.YthinpbdbhijbgaaGreatDoor
namespace Go.Proofs.YthinpbdbhijbgaaGreatDoor
open Go.RowKit
set_option maxHeartbeats 2000000
set_option maxRecDepth 100000

theorem ext_grow (w : World) (k : Nat) (os : Array Obj) : Ext w (Go.Sort.grow (w.drewN k) os) :=
  ⟨rfl, rfl, rfl, by simp [Go.Sort.grow, World.drewN], fun b hb => by
    show ((w.drewN k).heap ++ os)[b]? = _
    exact Array.getElem?_append_left hb⟩
/-- The table of powers that a number's text is made with. -/
def TabQ (w : World) : Prop := Lib.TabIs Tryz.prog w "internal/strconv.uint64pow10" .u64 Lib.pow10Tab
theorem tabQ_global : Tryz.prog.globalNamed "internal/strconv.uint64pow10" = some 2 := by kernel_rfl
theorem TabQ.ext {w w' : World} (h : TabQ w) (hE : Ext w w') : TabQ w' := by
  unfold TabQ Lib.TabIs World.var? at h ⊢
  rw [tabQ_global] at h ⊢
  simp only [Option.bind_some] at h ⊢
  have hlt : 2 < w.heap.size := by
    rcases Nat.lt_or_ge 2 w.heap.size with h' | h'
    · exact h'
    · rw [Array.getElem?_eq_none h'] at h; cases h
  rw [hE.block _ hlt]
  exact h
def itoaB (n : Int) : ByteArray := ⟨(Lib.itoa n).toArray⟩
def countB : ByteArray := ⟨#[99, 111, 117, 110, 116, 61]⟩
def bytesB : ByteArray := ⟨#[44, 98, 121, 116, 101, 115, 61]⟩
theorem itoaB_len {v : Int} (h1 : -1 ≤ v) (h2 : v ≤ 9223372036854775807) : (itoaB v).size ≤ 19 := by
  show (Lib.itoa v).toArray.size ≤ 19
  rw [List.size_toArray]
  by_cases hv : v = -1
  · subst hv; rw [itoa_m1]; decide
  · obtain ⟨n, rfl⟩ := Int.eq_ofNat_of_zero_le (show 0 ≤ v by omega)
    rw [Lib.itoa_nonneg, Lib.decDigits_length]
    exact nDigits_le19 (by omega)
theorem quoB (c b : Int) : countB ++ itoaB c ++ bytesB ++ itoaB b = ⟨(quoT c b).toArray⟩ := by
  have h : ∀ x y : ByteArray, (x ++ y) = ⟨(x.data.toList ++ y.data.toList).toArray⟩ := fun x y => by
    apply ByteArray.ext
    rw [ByteArray.data_append]
    apply Array.ext'
    simp
  rw [h, h, h]
  unfold quoT countT bytesT countB bytesB itoaB
  simp
theorem fmt_any (n : Int) (h0 : -9223372036854775808 ≤ n) (h1 : n ≤ 9223372036854775807) (w : World) (hT : TabQ w) :
    Calls Tryz.prog 57 #[.int .i64 n, .int .i64 10] w fun e w' => e = .returned (.string (itoaB n)) ∧ Ext w w' :=
  (Tryz.strconv_FormatInt_10 n h0 h1 w hT).mono fun e w' ⟨he, k, os, hw⟩ => ⟨he, by rw [hw]; exact ext_grow w k os⟩
theorem dec_any (n : Int) (h0 : -9223372036854775808 ≤ n) (h1 : n ≤ 9223372036854775807) (w : World) (hT : TabQ w) :
    Calls Tryz.prog 58 #[.int .i64 n] w fun e w' => e = .returned (.string (itoaB n)) ∧ Ext w w' := by
  have HC := Lib.hid (fmt_any n h0 h1 w hT)
  clear hT
  go_enter Tryz.func58, Tryz.ntmps58
  go_wp2_with fail
  refine HC.out.mono ?_
  rintro e w1 ⟨rfl, hE1⟩
  clear HC
  go_wp2
  go_ret
  exact ⟨rfl, hE1⟩

/-- A quota's text, and whether there is one. -/
def textV (h : Bool) (c b : Int) : Value := if h = true ∧ -1 ≤ c ∧ -1 ≤ b then .tuple #[.string ⟨(quoT c b).toArray⟩, .int .i64 0] else .tuple #[.string ⟨#[]⟩, .int .i64 1]
def TextOut (h : Bool) (c b : Int) (w : World) (e : Ending) (w' : World) : Prop := e = .returned (textV h c b) ∧ Ext w w'
theorem textV_yes {c b : Int} (h1 : -1 ≤ c) (h2 : -1 ≤ b) : Ending.returned (.tuple #[.string (countB ++ itoaB c ++ bytesB ++ itoaB b), .int .i64 0]) = .returned (textV true c b) := by unfold textV; rw [if_pos ⟨rfl, h1, h2⟩, quoB]
theorem textV_no {h : Bool} {c b : Int} (hg : ¬ (h = true ∧ -1 ≤ c ∧ -1 ≤ b)) : Ending.returned (.tuple #[.string ⟨#[]⟩, .int .i64 1]) = .returned (textV h c b) := by unfold textV; rw [if_neg hg]

theorem qquoText_any (h : Bool) (c b : Int) (w : World) (hc : -9223372036854775808 ≤ c ∧ c ≤ 9223372036854775807) (hb : -9223372036854775808 ≤ b ∧ b ≤ 9223372036854775807) (hT : TabQ w) :
    Calls Tryz.prog 8 #[.agg #[.bool h, .int .i64 c, .int .i64 b]] w (TextOut h c b w) := by
  have HE1 := Lib.hid (Ext.alloc w (.cells #[.bool h, .int .i64 c, .int .i64 b] 23))
  have HT1 := Lib.hid (hT.ext HE1.out)
  have hr := heap_alloc_new w (.cells #[.bool h, .int .i64 c, .int .i64 b] 23)
  have hx1 : (w.alloc (.cells #[.bool h, .int .i64 c, .int .i64 b] 23)).cell? ⟨w.heap.size, 1, none⟩ = some (.int .i64 c) := cell_of_row _ _ 1 _ _ _ hr
  have hx2 : (w.alloc (.cells #[.bool h, .int .i64 c, .int .i64 b] 23)).cell? ⟨w.heap.size, 2, none⟩ = some (.int .i64 b) := cell_of_row _ _ 2 _ _ _ hr
  have HC1 := Lib.hid hx1
  have HC2 := Lib.hid hx2
  clear hr hx1 hx2
  by_cases hg : h = true ∧ -1 ≤ c ∧ -1 ≤ b
  · obtain ⟨rfl, h1, h2⟩ := hg
    have lc := itoaB_len h1 hc.2
    have lb := itoaB_len h2 hb.2
    have q1 : 6 + (itoaB c).size ≤ 9223372036854775807 := by omega
    have q2 : 6 + (itoaB c).size ≤ 9223372036854775800 := by omega
    have q3 : 6 + (itoaB c).size + 7 + (itoaB b).size ≤ 9223372036854775807 := by omega
    have HV := Lib.hid (textV_yes h1 h2)
    go_enter Tryz.func8, Tryz.ntmps8
    go_wp2_with fail
    refine wp_region_P (by kernel_rfl) (region_sp 26 [.val (.pointer (some ⟨w.heap.size, 1, none⟩)), .val (.int .i64 c), .val (.string (itoaB c)), .val (.string (countB ++ itoaB c)), .val (.string (countB ++ itoaB c ++ bytesB)), .val (.pointer (some ⟨w.heap.size, 2, none⟩)), .val (.int .i64 b), .val (.string (itoaB b)), .val (.string (countB ++ itoaB c ++ bytesB ++ itoaB b)), .val (.string (countB ++ itoaB c ++ bytesB ++ itoaB b)), .val (.int .i64 0)] ?stay rfl (by decide) rfl ?duties ?rest)
    case duties =>
      refine ⟨?_, ?_, ?_, ?_, ?_, ?_, ?_, ?_, ?_, ?_, ?_, trivial⟩
      · refine duty_free rfl fun a w' hE hF hA => ?_
        have x1 := hF.slot 1 _ (by decide) rfl
        exact wp_value (w' := w') (v := .pointer (some ⟨w.heap.size, 1, none⟩)) (by simp only [execOp, x1]; simp [go_sem]) ⟨_, rfl, rfl, Ext.refl _⟩
      · refine duty_free rfl fun a w' hE hF hA => ?_
        have x1 := hA.pick 0 17 (.pointer (some ⟨w.heap.size, 1, none⟩)) rfl rfl ⟨⟨0, .data⟩, by simp, rfl, rfl⟩ (fun u h => h)
        exact wp_value (ex_cell rfl _ _ x1 ((hE.cell (World.block_lt_of_cell? _ _ HC1.out)).trans HC1.out) rfl Tryz.underlying2) ⟨_, rfl, rfl, Ext.refl _⟩
      · refine duty_free rfl fun a w' hE hF hA => ?_
        have x1 := hA.pick 1 18 (.int .i64 c) rfl rfl ⟨⟨1, .data⟩, by simp, rfl, rfl⟩ (fun u h => h)
        refine wp_enter (ex_call rfl (enters_f Tryz.func57 (by kernel_rfl) rfl)) (by simp only [List.map_toArray, List.map_cons, List.map_nil, x1]; exact fmt_any c hc.1 hc.2 w' (HT1.out.ext hE)) ?_
        rintro e w4 ⟨rfl, hb⟩
        exact ⟨_, rfl, _, rfl, rfl, hb⟩
      · refine duty_free rfl fun a w' hE hF hA => ?_
        have x1 := hA.pick 2 19 (.string (itoaB c)) rfl rfl ⟨⟨2, .data⟩, by simp, rfl, rfl⟩ (fun u h => h)
        exact wp_value (w' := w') (v := .string (countB ++ itoaB c)) (by simp only [execOp, x1]; simp [go_sem, countB, q1]) ⟨_, rfl, rfl, Ext.refl _⟩
      · refine duty_free rfl fun a w' hE hF hA => ?_
        have x1 := hA.pick 3 20 (.string (countB ++ itoaB c)) rfl rfl ⟨⟨3, .data⟩, by simp, rfl, rfl⟩ (fun u h => h)
        exact wp_value (w' := w') (v := .string (countB ++ itoaB c ++ bytesB)) (by simp only [execOp, x1]; simp [go_sem, countB, bytesB, q2]) ⟨_, rfl, rfl, Ext.refl _⟩
      · refine duty_free rfl fun a w' hE hF hA => ?_
        have x1 := hF.slot 1 _ (by decide) rfl
        exact wp_value (w' := w') (v := .pointer (some ⟨w.heap.size, 2, none⟩)) (by simp only [execOp, x1]; simp [go_sem]) ⟨_, rfl, rfl, Ext.refl _⟩
      · refine duty_free rfl fun a w' hE hF hA => ?_
        have x1 := hA.pick 5 22 (.pointer (some ⟨w.heap.size, 2, none⟩)) rfl rfl ⟨⟨5, .data⟩, by simp, rfl, rfl⟩ (fun u h => h)
        exact wp_value (ex_cell rfl _ _ x1 ((hE.cell (World.block_lt_of_cell? _ _ HC2.out)).trans HC2.out) rfl Tryz.underlying2) ⟨_, rfl, rfl, Ext.refl _⟩
      · refine duty_free rfl fun a w' hE hF hA => ?_
        have x1 := hA.pick 6 23 (.int .i64 b) rfl rfl ⟨⟨6, .data⟩, by simp, rfl, rfl⟩ (fun u h => h)
        refine wp_enter (ex_call rfl (enters_f Tryz.func57 (by kernel_rfl) rfl)) (by simp only [List.map_toArray, List.map_cons, List.map_nil, x1]; exact fmt_any b hb.1 hb.2 w' (HT1.out.ext hE)) ?_
        rintro e w4 ⟨rfl, hb⟩
        exact ⟨_, rfl, _, rfl, rfl, hb⟩
      · refine duty_free rfl fun a w' hE hF hA => ?_
        have x1 := hA.pick 4 21 (.string (countB ++ itoaB c ++ bytesB)) rfl rfl ⟨⟨4, .data⟩, by simp, rfl, rfl⟩ (fun u h => h)
        have x2 := hA.pick 7 24 (.string (itoaB b)) rfl rfl ⟨⟨7, .data⟩, by simp, rfl, rfl⟩ (fun u h => h)
        exact wp_value (w' := w') (v := .string (countB ++ itoaB c ++ bytesB ++ itoaB b)) (by simp only [execOp, x1, x2]; simp [go_sem, countB, bytesB, q3]) ⟨_, rfl, rfl, Ext.refl _⟩
      · refine duty_free rfl fun a w' hE hF hA => ?_
        have x1 := hA.pick 8 25 (.string (countB ++ itoaB c ++ bytesB ++ itoaB b)) rfl rfl ⟨⟨8, .data⟩, by simp, rfl, rfl⟩ (fun u h => h)
        exact wp_value (w' := w') (ex_assign rfl) ⟨_, rfl, x1, Ext.refl _⟩
      · refine duty_free rfl fun a w' hE hF hA => ?_
        exact wp_value (w' := w') (v := .int .i64 0) (by simp only [execOp]; simp [go_sem]) ⟨_, rfl, rfl, Ext.refl _⟩
    case stay => exact trivial
    case rest =>
      intro w4 hE4
      simp only [forS]
      simp only [filled, List.zip_cons_cons, List.zip_nil_left, List.foldl_cons, List.foldl_nil, Act.put, List.setIfInBounds_toArray, List.set_cons_succ, List.set_cons_zero]
      go_wp2
      go_ret2
      exact ⟨HV.out, HE1.out.trans hE4⟩
  · have HN := Lib.hid (textV_no hg)
    cases h
    · clear hg
      go_enter Tryz.func8, Tryz.ntmps8
      go_wp2
      go_ret2
      exact ⟨HN.out, HE1.out⟩
    · have HX := Lib.hid (show ¬ (-1 ≤ c ∧ -1 ≤ b) from fun h => hg ⟨rfl, h.1, h.2⟩)
      clear hg
      go_enter Tryz.func8, Tryz.ntmps8
      go_wp2
      all_goals first
        | (exfalso; exact HX.out ⟨by omega, by omega⟩)
        | (go_ret2; exact ⟨HN.out, HE1.out⟩)

theorem rquoText_any (h : Bool) (c b : Int) (w : World) (hc : -9223372036854775808 ≤ c ∧ c ≤ 9223372036854775807) (hb : -9223372036854775808 ≤ b ∧ b ≤ 9223372036854775807) (hT : TabQ w) :
    Calls Tryz.prog 9 #[.agg #[.bool h, .int .i64 c, .int .i64 b]] w (TextOut h c b w) := by
  have HE1 := Lib.hid (Ext.alloc w (.cells #[.bool h, .int .i64 c, .int .i64 b] 23))
  have HT1 := Lib.hid (hT.ext HE1.out)
  have hr := heap_alloc_new w (.cells #[.bool h, .int .i64 c, .int .i64 b] 23)
  have hx1 : (w.alloc (.cells #[.bool h, .int .i64 c, .int .i64 b] 23)).cell? ⟨w.heap.size, 1, none⟩ = some (.int .i64 c) := cell_of_row _ _ 1 _ _ _ hr
  have hx2 : (w.alloc (.cells #[.bool h, .int .i64 c, .int .i64 b] 23)).cell? ⟨w.heap.size, 2, none⟩ = some (.int .i64 b) := cell_of_row _ _ 2 _ _ _ hr
  have HC1 := Lib.hid hx1
  have HC2 := Lib.hid hx2
  clear hr hx1 hx2
  by_cases hg : h = true ∧ -1 ≤ c ∧ -1 ≤ b
  · obtain ⟨rfl, h1, h2⟩ := hg
    have lc := itoaB_len h1 hc.2
    have lb := itoaB_len h2 hb.2
    have q1 : 6 + (itoaB c).size ≤ 9223372036854775807 := by omega
    have q2 : 6 + (itoaB c).size ≤ 9223372036854775800 := by omega
    have q3 : 6 + (itoaB c).size + 7 + (itoaB b).size ≤ 9223372036854775807 := by omega
    have HV := Lib.hid (textV_yes h1 h2)
    go_enter Tryz.func9, Tryz.ntmps9
    go_wp2_with fail
    refine wp_region_P (by kernel_rfl) (region_sp 26 [.val (.pointer (some ⟨w.heap.size, 1, none⟩)), .val (.int .i64 c), .val (.string (itoaB c)), .val (.string (countB ++ itoaB c)), .val (.string (countB ++ itoaB c ++ bytesB)), .val (.pointer (some ⟨w.heap.size, 2, none⟩)), .val (.int .i64 b), .val (.string (itoaB b)), .val (.string (countB ++ itoaB c ++ bytesB ++ itoaB b)), .val (.string (countB ++ itoaB c ++ bytesB ++ itoaB b)), .val (.int .i64 0)] ?stay rfl (by decide) rfl ?duties ?rest)
    case duties =>
      refine ⟨?_, ?_, ?_, ?_, ?_, ?_, ?_, ?_, ?_, ?_, ?_, trivial⟩
      · refine duty_free rfl fun a w' hE hF hA => ?_
        have x1 := hF.slot 1 _ (by decide) rfl
        exact wp_value (w' := w') (v := .pointer (some ⟨w.heap.size, 1, none⟩)) (by simp only [execOp, x1]; simp [go_sem]) ⟨_, rfl, rfl, Ext.refl _⟩
      · refine duty_free rfl fun a w' hE hF hA => ?_
        have x1 := hA.pick 0 17 (.pointer (some ⟨w.heap.size, 1, none⟩)) rfl rfl ⟨⟨0, .data⟩, by simp, rfl, rfl⟩ (fun u h => h)
        exact wp_value (ex_cell rfl _ _ x1 ((hE.cell (World.block_lt_of_cell? _ _ HC1.out)).trans HC1.out) rfl Tryz.underlying2) ⟨_, rfl, rfl, Ext.refl _⟩
      · refine duty_free rfl fun a w' hE hF hA => ?_
        have x1 := hA.pick 1 18 (.int .i64 c) rfl rfl ⟨⟨1, .data⟩, by simp, rfl, rfl⟩ (fun u h => h)
        refine wp_enter (ex_call rfl (enters_f Tryz.func58 (by kernel_rfl) rfl)) (by simp only [List.map_toArray, List.map_cons, List.map_nil, x1]; exact dec_any c hc.1 hc.2 w' (HT1.out.ext hE)) ?_
        rintro e w4 ⟨rfl, hb⟩
        exact ⟨_, rfl, _, rfl, rfl, hb⟩
      · refine duty_free rfl fun a w' hE hF hA => ?_
        have x1 := hA.pick 2 19 (.string (itoaB c)) rfl rfl ⟨⟨2, .data⟩, by simp, rfl, rfl⟩ (fun u h => h)
        exact wp_value (w' := w') (v := .string (countB ++ itoaB c)) (by simp only [execOp, x1]; simp [go_sem, countB, q1]) ⟨_, rfl, rfl, Ext.refl _⟩
      · refine duty_free rfl fun a w' hE hF hA => ?_
        have x1 := hA.pick 3 20 (.string (countB ++ itoaB c)) rfl rfl ⟨⟨3, .data⟩, by simp, rfl, rfl⟩ (fun u h => h)
        exact wp_value (w' := w') (v := .string (countB ++ itoaB c ++ bytesB)) (by simp only [execOp, x1]; simp [go_sem, countB, bytesB, q2]) ⟨_, rfl, rfl, Ext.refl _⟩
      · refine duty_free rfl fun a w' hE hF hA => ?_
        have x1 := hF.slot 1 _ (by decide) rfl
        exact wp_value (w' := w') (v := .pointer (some ⟨w.heap.size, 2, none⟩)) (by simp only [execOp, x1]; simp [go_sem]) ⟨_, rfl, rfl, Ext.refl _⟩
      · refine duty_free rfl fun a w' hE hF hA => ?_
        have x1 := hA.pick 5 22 (.pointer (some ⟨w.heap.size, 2, none⟩)) rfl rfl ⟨⟨5, .data⟩, by simp, rfl, rfl⟩ (fun u h => h)
        exact wp_value (ex_cell rfl _ _ x1 ((hE.cell (World.block_lt_of_cell? _ _ HC2.out)).trans HC2.out) rfl Tryz.underlying2) ⟨_, rfl, rfl, Ext.refl _⟩
      · refine duty_free rfl fun a w' hE hF hA => ?_
        have x1 := hA.pick 6 23 (.int .i64 b) rfl rfl ⟨⟨6, .data⟩, by simp, rfl, rfl⟩ (fun u h => h)
        refine wp_enter (ex_call rfl (enters_f Tryz.func58 (by kernel_rfl) rfl)) (by simp only [List.map_toArray, List.map_cons, List.map_nil, x1]; exact dec_any b hb.1 hb.2 w' (HT1.out.ext hE)) ?_
        rintro e w4 ⟨rfl, hb⟩
        exact ⟨_, rfl, _, rfl, rfl, hb⟩
      · refine duty_free rfl fun a w' hE hF hA => ?_
        have x1 := hA.pick 4 21 (.string (countB ++ itoaB c ++ bytesB)) rfl rfl ⟨⟨4, .data⟩, by simp, rfl, rfl⟩ (fun u h => h)
        have x2 := hA.pick 7 24 (.string (itoaB b)) rfl rfl ⟨⟨7, .data⟩, by simp, rfl, rfl⟩ (fun u h => h)
        exact wp_value (w' := w') (v := .string (countB ++ itoaB c ++ bytesB ++ itoaB b)) (by simp only [execOp, x1, x2]; simp [go_sem, countB, bytesB, q3]) ⟨_, rfl, rfl, Ext.refl _⟩
      · refine duty_free rfl fun a w' hE hF hA => ?_
        have x1 := hA.pick 8 25 (.string (countB ++ itoaB c ++ bytesB ++ itoaB b)) rfl rfl ⟨⟨8, .data⟩, by simp, rfl, rfl⟩ (fun u h => h)
        exact wp_value (w' := w') (ex_assign rfl) ⟨_, rfl, x1, Ext.refl _⟩
      · refine duty_free rfl fun a w' hE hF hA => ?_
        exact wp_value (w' := w') (v := .int .i64 0) (by simp only [execOp]; simp [go_sem]) ⟨_, rfl, rfl, Ext.refl _⟩
    case stay => exact trivial
    case rest =>
      intro w4 hE4
      simp only [forS]
      simp only [filled, List.zip_cons_cons, List.zip_nil_left, List.foldl_cons, List.foldl_nil, Act.put, List.setIfInBounds_toArray, List.set_cons_succ, List.set_cons_zero]
      go_wp2
      go_ret2
      exact ⟨HV.out, HE1.out.trans hE4⟩
  · have HN := Lib.hid (textV_no hg)
    cases h
    · clear hg
      go_enter Tryz.func9, Tryz.ntmps9
      go_wp2
      go_ret2
      exact ⟨HN.out, HE1.out⟩
    · have HX := Lib.hid (show ¬ (-1 ≤ c ∧ -1 ≤ b) from fun h => hg ⟨rfl, h.1, h.2⟩)
      clear hg
      go_enter Tryz.func9, Tryz.ntmps9
      go_wp2
      all_goals first
        | (exfalso; exact HX.out ⟨by omega, by omega⟩)
        | (go_ret2; exact ⟨HN.out, HE1.out⟩)
end Go.Proofs.YthinpbdbhijbgaaGreatDoor
namespace Go.Proofs.YthinpbdbhijbgaaGreatDoor
open Go.RowKit Go.Lib
set_option maxHeartbeats 2000000
set_option maxRecDepth 100000

theorem sizeQuo : (Tryz.prog.info? 23).map (·.size) = some 3 := by kernel_rfl
def zeroQuo : Array Value := #[.bool false, .int .i64 0, .int .i64 0]
/-- A quota that may be none, as its cells, and whether it is. -/
def quoC : Option (Int × Int) → Array Value
  | some (c, b) => #[.bool true, .int .i64 c, .int .i64 b]
  | none => zeroQuo
def quoE : Option (Int × Int) → Int
  | some _ => 0
  | none => 1
def ParOut (o : Option (Int × Int)) (w : World) (e : Ending) (w' : World) : Prop := e = .returned (.tuple #[.agg (quoC o), .int .i64 (quoE o)]) ∧ Ext w w'

theorem commaAt_le (s : ByteArray) (h : 6 ≤ s.size) : 6 + commaAt s.data.toList ≤ s.size := by
  have h1 := (List.takeWhile_sublist (· != 44) (l := s.data.toList.drop 6)).length_le
  rw [List.length_drop, size_len] at h1
  unfold commaAt
  omega
theorem tw_before : ∀ (l : List UInt8) (j : Nat) (h : j < (l.takeWhile (· != 44)).length) (h' : j < l.length), l[j] ≠ 44
  | a :: l, j, h, h' => by
    rw [List.takeWhile_cons] at h
    split at h
    · rename_i ha
      cases j with
      | zero => simpa using ha
      | succ j => exact tw_before l j (by simpa using h) (by simpa using h')
    · simp at h
theorem tw_at : ∀ (l : List UInt8) (h' : (l.takeWhile (· != 44)).length < l.length), l[(l.takeWhile (· != 44)).length] = 44
  | a :: l, h' => by
    by_cases ha : (a != 44) = true
    · have e : (a :: l).takeWhile (· != 44) = a :: l.takeWhile (· != 44) := by rw [List.takeWhile_cons, if_pos ha]
      simp only [e, List.length_cons, List.getElem_cons_succ]
      exact tw_at l (by rw [e] at h'; simpa using h')
    · have e : (a :: l).takeWhile (· != 44) = [] := by rw [List.takeWhile_cons, if_neg ha]
      simp only [e, List.length_nil, List.getElem_cons_zero]
      simpa using ha
theorem at_list (s : ByteArray) (i : Nat) (h : i < s.size) (h' : i < s.data.toList.length) : s.data.toList[i] = s[i]'h := rfl
theorem comma_before (s : ByteArray) (j : Nat) (h : j < commaAt s.data.toList) (hk : 6 + j < s.size) : ((s[6 + j]'hk).toNat : Int) ≠ 44 := fun e => by
  have hl : j < (s.data.toList.drop 6).length := by rw [List.length_drop, size_len]; omega
  have := tw_before (s.data.toList.drop 6) j h hl
  rw [List.getElem_drop, at_list s (6 + j) hk] at this
  exact this (UInt8.toNat_inj.1 (by show _ = 44; omega))
theorem comma_at (s : ByteArray) (hk : 6 + commaAt s.data.toList < s.size) : ((s[6 + commaAt s.data.toList]'hk).toNat : Int) = 44 := by
  have hl : ((s.data.toList.drop 6).takeWhile (· != 44)).length < (s.data.toList.drop 6).length := by rw [List.length_drop, size_len]; show commaAt _ < _; omega
  have := tw_at (s.data.toList.drop 6) hl
  rw [List.getElem_drop] at this
  have h2 : (s[6 + commaAt s.data.toList]'hk) = 44 := this
  rw [h2]; rfl
theorem ext_take (s : ByteArray) (i n : Nat) (l : List UInt8) : ((s.extract i (i + n)).toList == l) = decide ((s.data.toList.drop i).take n = l) := by
  rw [ByteArray.toList_eq, extract_list, List.drop_take, Nat.add_sub_cancel_left]
  rw [Bool.eq_iff_iff, beq_iff_eq, decide_eq_true_iff]

theorem rparse_any (s : ByteArray) (w : World) (hs : s.size ≤ 4294967280) : Calls Tryz.prog 13 #[.string s] w (ParOut (parseR s.data.toList) w) := by
  have HR := Lib.hid (heap_alloc_new w (.cells zeroQuo 23))
  have HS := Lib.hid (fun cs => setRow_alloc w zeroQuo cs 23)
  have HE := Lib.hid (fun cs => Ext.alloc w (.cells cs 23))
  have HN := Lib.hid (fun cs => heap_alloc_new w (.cells cs 23))
  have ht := ext_take s 0 6 [99, 111, 117, 110, 116, 61]
  rw [Nat.zero_add, List.drop_zero] at ht
  by_cases h1 : s.size < 6
  · have HP := Lib.hid (show parseR s.data.toList = none from by unfold parseR; rw [if_pos (.inl (by rw [size_len]; exact h1))])
    clear ht
    unfold zeroQuo at HR HS
    go_enter Tryz.func13, Tryz.ntmps13
    go_wp2_with (refine wpList_store_row rfl 23 (.tmp 2) (.tmp 17) rfl w.heap.size _ rfl rfl 23 _ HR.out sizeQuo rfl (by simp [Value.oneCell']) ?_; rw [HS.out])
    refine bodyPost_ret (v := .tuple #[.agg (quoC none), .int .i64 (quoE none)]) ?_ rfl ⟨by rw [HP.out], HE.out _⟩
    exact results_cell_row2 (p := 2) (q := 3) (ty := 23) rfl _ _ w.heap.size 23 _ (0, 0) _ _ rfl rfl (HN.out _) Tryz.underlying23 rfl sizeQuo
  · by_cases h2 : s.data.toList.take 6 = countT
    · rw [show s.data.toList.take 6 = [99, 111, 117, 110, 116, 61] from h2, decide_eq_true rfl] at ht
      have hcl := commaAt_le s (by omega)
      have hcb := Lib.hid (comma_before s)
      have hca := Lib.hid (comma_at s)
      have h12 : ¬ (s.data.toList.length < 6 ∨ s.data.toList.take 6 ≠ countT) := by
        rw [size_len]
        exact fun h => h.elim h1 fun h => h h2
      obtain ⟨m, hm⟩ : ∃ m, m = commaAt s.data.toList := ⟨_, rfl⟩
      have hpr : parseR s.data.toList = if s.data.toList.length < 6 + m + 7 ∨ (s.data.toList.drop (6 + m)).take 7 ≠ bytesT then none
          else match numR ((s.data.toList.drop 6).take m), numR (s.data.toList.drop (6 + m + 7)) with
            | some c, some b => some (c, b)
            | _, _ => none := by
        subst hm; unfold parseR; rw [if_neg h12]; rfl
      rw [← hm] at hcl hcb hca
      clear hm h12 h2
      have HPR := Lib.hid hpr
      have ht2 := ext_take s (6 + m) 7 [44, 98, 121, 116, 101, 115, 61]
      clear hpr
      unfold zeroQuo at HR HS
      go_enter Tryz.func13, Tryz.ntmps13
      go_wp2
      go_loopw [4] (fun i wr => ∃ k : Nat, k ≤ m ∧ i = .int .i64 ((6 + k : Nat) : Int) ∧ wr = w.alloc (.cells #[.bool false, .int .i64 0, .int .i64 0] 23)) (fun i _ => s.size - (intOf i).toNat)
      case atStart => exact ⟨0, Nat.zero_le _, rfl, rfl⟩
      case round =>
        obtain ⟨k, hk, rfl, rfl⟩ := hrel
        by_cases hlt : k < m
        · have hkk : 6 + k < s.size := by omega
          have hc := hcb.out k hlt hkk
          go_wp2_with fail
          refine ⟨⟨k + 1, by omega, by go_num, trivial⟩, ?_⟩
          simp only [intOf]
          omega
        · obtain rfl : k = m := by omega
          by_cases h4 : s.size < 6 + k + 7
          · have HP := Lib.hid (HPR.out.trans (if_pos (.inl (by rw [size_len]; exact h4))))
            by_cases h3 : 6 + k < s.size
            · have hc := hca.out h3
              go_wp2_with (refine wpList_store_row rfl 23 (.tmp 2) (.tmp 43) rfl w.heap.size _ rfl rfl 23 _ HR.out sizeQuo rfl (by simp [Value.oneCell']) ?_; rw [HS.out])
              refine bodyPost_ret (v := .tuple #[.agg (quoC none), .int .i64 (quoE none)]) ?_ rfl ⟨by rw [HP.out], HE.out _⟩
              exact results_cell_row2 (p := 2) (q := 3) (ty := 23) rfl _ _ w.heap.size 23 _ (0, 0) _ _ rfl rfl (HN.out _) Tryz.underlying23 rfl sizeQuo
            · go_wp2_with (refine wpList_store_row rfl 23 (.tmp 2) (.tmp 43) rfl w.heap.size _ rfl rfl 23 _ HR.out sizeQuo rfl (by simp [Value.oneCell']) ?_; rw [HS.out])
              refine bodyPost_ret (v := .tuple #[.agg (quoC none), .int .i64 (quoE none)]) ?_ rfl ⟨by rw [HP.out], HE.out _⟩
              exact results_cell_row2 (p := 2) (q := 3) (ty := 23) rfl _ _ w.heap.size 23 _ (0, 0) _ _ rfl rfl (HN.out _) Tryz.underlying23 rfl sizeQuo
          · have h3 : 6 + k < s.size := by omega
            have hc := hca.out h3
            by_cases h5 : (s.data.toList.drop (6 + k)).take 7 = bytesT
            · rw [show (s.data.toList.drop (6 + k)).take 7 = [44, 98, 121, 116, 101, 115, 61] from h5, decide_eq_true rfl] at ht2
              have h5' : ¬ (s.data.toList.length < 6 + k + 7 ∨ (s.data.toList.drop (6 + k)).take 7 ≠ bytesT) := by
                rw [size_len]
                exact fun h => h.elim h4 fun h => h h5
              have hz1 : (s.extract 6 (6 + k)).size ≤ 9223372036854775800 := by simp; omega
              have hz2 : (s.extract (6 + k + 7) s.size).size ≤ 9223372036854775800 := by simp; omega
              have cn1 := rnumber_any (s.extract 6 (6 + k)) (w.alloc (.cells #[.bool false, .int .i64 0, .int .i64 0] 23)) hz1
              have cn2 := rnumber_any (s.extract (6 + k + 7) s.size) (w.alloc (.cells #[.bool false, .int .i64 0, .int .i64 0] 23)) hz2
              rw [extract_list, List.drop_take, Nat.add_sub_cancel_left] at cn1
              rw [extract_list, ← size_len s, List.take_length, size_len s] at cn2
              clear h5 hz1 hz2
              rcases hn1 : numR ((s.data.toList.drop 6).take k) with _ | c <;> rcases hn2 : numR (s.data.toList.drop (6 + k + 7)) with _ | b
              all_goals (
                rw [hn1] at cn1
                rw [hn2] at cn2
                have CN1 := Lib.hid cn1
                have CN2 := Lib.hid cn2
                clear cn1 cn2
                unfold NumOut at CN1 CN2)
              · -- none none
                have HP := Lib.hid (HPR.out.trans (by rw [if_neg h5', hn1, hn2] : _ = none))
                clear h5' hn1 hn2
                go_wp2_with fail
                refine CN1.out.mono ?_
                rintro e W2 ⟨⟨v1, rfl, hv1⟩, rfl⟩
                have hv1' := Lib.hid hv1
                clear hv1
                clear CN1
                go_wp2_with fail
                refine CN2.out.mono ?_
                rintro e W2 ⟨⟨v2, rfl, hv2⟩, rfl⟩
                have hv2' := Lib.hid hv2
                clear hv2 CN2
                go_wp2_with (refine wpList_store_row rfl 23 (.tmp 2) (.tmp 65) rfl w.heap.size _ rfl rfl 23 _ HR.out sizeQuo rfl (by simp [Value.oneCell']) ?_; rw [HS.out])
                refine bodyPost_ret (v := .tuple #[.agg (quoC none), .int .i64 (quoE none)]) ?_ rfl ⟨by rw [HP.out], HE.out _⟩
                exact results_cell_row2 (p := 2) (q := 3) (ty := 23) rfl _ _ w.heap.size 23 _ (0, 0) _ _ rfl rfl (HN.out _) Tryz.underlying23 rfl sizeQuo
              · -- none some
                have HP := Lib.hid (HPR.out.trans (by rw [if_neg h5', hn1, hn2] : _ = none))
                clear h5' hn1 hn2
                go_wp2_with fail
                refine CN1.out.mono ?_
                rintro e W2 ⟨⟨v1, rfl, hv1⟩, rfl⟩
                have hv1' := Lib.hid hv1
                clear hv1
                clear CN1
                go_wp2_with fail
                refine CN2.out.mono ?_
                rintro e W2 ⟨⟨v2, rfl, hv2⟩, rfl⟩
                have hv2' := Lib.hid hv2
                clear hv2 CN2
                go_wp2_with (refine wpList_store_row rfl 23 (.tmp 2) (.tmp 65) rfl w.heap.size _ rfl rfl 23 _ HR.out sizeQuo rfl (by simp [Value.oneCell']) ?_; rw [HS.out])
                refine bodyPost_ret (v := .tuple #[.agg (quoC none), .int .i64 (quoE none)]) ?_ rfl ⟨by rw [HP.out], HE.out _⟩
                exact results_cell_row2 (p := 2) (q := 3) (ty := 23) rfl _ _ w.heap.size 23 _ (0, 0) _ _ rfl rfl (HN.out _) Tryz.underlying23 rfl sizeQuo
              · -- some none
                have HP := Lib.hid (HPR.out.trans (by rw [if_neg h5', hn1, hn2] : _ = none))
                clear h5' hn1 hn2
                go_wp2_with fail
                refine CN1.out.mono ?_
                rintro e W2 ⟨⟨v1, rfl, hv1⟩, rfl⟩
                have hv1' := Lib.hid hv1
                clear hv1
                clear CN1
                go_wp2_with fail
                refine CN2.out.mono ?_
                rintro e W2 ⟨⟨v2, rfl, hv2⟩, rfl⟩
                have hv2' := Lib.hid hv2
                clear hv2 CN2
                go_wp2_with (refine wpList_store_row rfl 23 (.tmp 2) (.tmp 65) rfl w.heap.size _ rfl rfl 23 _ HR.out sizeQuo rfl (by simp [Value.oneCell']) ?_; rw [HS.out])
                refine bodyPost_ret (v := .tuple #[.agg (quoC none), .int .i64 (quoE none)]) ?_ rfl ⟨by rw [HP.out], HE.out _⟩
                exact results_cell_row2 (p := 2) (q := 3) (ty := 23) rfl _ _ w.heap.size 23 _ (0, 0) _ _ rfl rfl (HN.out _) Tryz.underlying23 rfl sizeQuo
              · -- some some
                have HP := Lib.hid (HPR.out.trans (by rw [if_neg h5', hn1, hn2] : _ = some (c, b)))
                clear h5' hn1 hn2
                go_wp2_with fail
                refine CN1.out.mono ?_
                rintro e W2 ⟨⟨v1, rfl, hv1⟩, rfl⟩
                have hv1' := Lib.hid hv1
                clear hv1
                clear CN1
                go_wp2_with fail
                refine CN2.out.mono ?_
                rintro e W2 ⟨⟨v2, rfl, hv2⟩, rfl⟩
                have hv2' := Lib.hid hv2
                clear hv2 CN2
                obtain rfl := hv1'.out _ rfl
                obtain rfl := hv2'.out _ rfl
                go_wp2_with (refine wpList_store_row rfl 23 (.tmp 2) (.tmp 68) rfl w.heap.size _ rfl rfl 23 _ HR.out sizeQuo rfl (by simp [Value.oneCell']) ?_; rw [HS.out])
                refine bodyPost_ret (v := .tuple #[.agg (quoC (some (v1, v2))), .int .i64 (quoE (some (v1, v2)))]) ?_ rfl ⟨by rw [HP.out], HE.out _⟩
                exact results_cell_row2 (p := 2) (q := 3) (ty := 23) rfl _ _ w.heap.size 23 _ (0, 0) _ _ rfl rfl (HN.out _) Tryz.underlying23 rfl sizeQuo
            · rw [decide_eq_false (show ¬ (s.data.toList.drop (6 + k)).take 7 = [44, 98, 121, 116, 101, 115, 61] from h5)] at ht2
              have HP := Lib.hid (HPR.out.trans (if_pos (.inr h5)))
              clear h5
              go_wp2_with (refine wpList_store_row rfl 23 (.tmp 2) (.tmp 43) rfl w.heap.size _ rfl rfl 23 _ HR.out sizeQuo rfl (by simp [Value.oneCell']) ?_; rw [HS.out])
              refine bodyPost_ret (v := .tuple #[.agg (quoC none), .int .i64 (quoE none)]) ?_ rfl ⟨by rw [HP.out], HE.out _⟩
              exact results_cell_row2 (p := 2) (q := 3) (ty := 23) rfl _ _ w.heap.size 23 _ (0, 0) _ _ rfl rfl (HN.out _) Tryz.underlying23 rfl sizeQuo
    · rw [decide_eq_false (show ¬ s.data.toList.take 6 = [99, 111, 117, 110, 116, 61] from h2)] at ht
      have HP := Lib.hid (show parseR s.data.toList = none from by unfold parseR; rw [if_pos (.inr h2)])
      clear h2
      unfold zeroQuo at HR HS
      go_enter Tryz.func13, Tryz.ntmps13
      go_wp2_with (refine wpList_store_row rfl 23 (.tmp 2) (.tmp 17) rfl w.heap.size _ rfl rfl 23 _ HR.out sizeQuo rfl (by simp [Value.oneCell']) ?_; rw [HS.out])
      refine bodyPost_ret (v := .tuple #[.agg (quoC none), .int .i64 (quoE none)]) ?_ rfl ⟨by rw [HP.out], HE.out _⟩
      exact results_cell_row2 (p := 2) (q := 3) (ty := 23) rfl _ _ w.heap.size 23 _ (0, 0) _ _ rfl rfl (HN.out _) Tryz.underlying23 rfl sizeQuo
end Go.Proofs.YthinpbdbhijbgaaGreatDoor
namespace Go.Proofs.YthinpbdbhijbgaaGreatDoor
open Go.RowKit Go.Lib
set_option maxHeartbeats 2000000
set_option maxRecDepth 100000

/-- What holds an error's text, or none. -/
def ErrCell (w : World) (g : Nat) : Prop := ∃ ev, w.cell? ⟨g, 0, none⟩ = some ev ∧ (ev = .nilIface ∨ ∃ te pe, ev = .iface te pe)
theorem ErrCell.ext {w w' : World} {g : Nat} (h : ErrCell w g) (hE : Ext w w') : ErrCell w' g := by
  obtain ⟨ev, h1, h2⟩ := h
  exact ⟨ev, (hE.cell (World.block_lt_of_cell? _ _ h1)).trans h1, h2⟩
def MaxCell (w : World) : Prop := ∃ m : Int, w.cell? ⟨3, 0, none⟩ = some (.int .i64 m)
theorem MaxCell.ext {w w' : World} (h : MaxCell w) (hE : Ext w w') : MaxCell w' := by
  obtain ⟨m, h1⟩ := h
  exact ⟨m, (hE.cell (World.block_lt_of_cell? _ _ h1)).trans h1⟩
/-- What the calls of strings and strconv read. -/
structure TxtW (w : World) : Prop where
  tab : TabQ w
  max : MaxCell w
  syn : ErrCell w 4
  rng : ErrCell w 5
theorem TxtW.ext {w w' : World} (h : TxtW w) (hE : Ext w w') : TxtW w' := ⟨h.tab.ext hE, h.max.ext hE, h.syn.ext hE, h.rng.ext hE⟩

def PInt (l : List UInt8) (e : Ending) : Prop :=
  ∃ (v : Int) (ev : Value), e = .returned (.tuple #[.int .i64 v, ev]) ∧ (-9223372036854775808 ≤ v ∧ v ≤ 9223372036854775807) ∧ ((ev = .nilIface ∧ parseIntB 64 l = .ok v) ∨ ((∃ p, ev = .iface 248 p) ∧ ∀ x, parseIntB 64 l ≠ .ok x))
theorem intSat_rng (l : List UInt8) : -9223372036854775808 ≤ intSat 64 l ∧ intSat 64 l ≤ 9223372036854775807 := by
  have e : (2 : Nat) ^ (64 - 1) = 9223372036854775808 := by decide
  unfold intSat
  rw [e]
  split <;> omega
theorem pint_any (s : ByteArray) (w : World) (hs : s.size ≤ 281474976710656) (hT : TxtW w) :
    Calls Tryz.prog 66 #[.string s, .int .i64 10, .int .i64 64] w fun e w' => PInt s.data.toList e ∧ Ext w w' := by
  rcases h : parseIntB 64 s.data.toList with v | _ | _
  · have hb := parseIntB_bounds h
    refine (Tryz.strconv_ParseInt_10_at64_ok s (by omega) v h w).mono fun e w' ⟨he, hw⟩ => ⟨⟨v, .nilIface, he, ⟨by have := hb.1; omega, by have := hb.2; omega⟩, .inl ⟨rfl, h⟩⟩, ?_⟩
    rcases hw with rfl | ⟨t, rfl⟩
    · exact Ext.refl _
    · exact Go.Joins.below_bytesWorld _ _ _ _ (Nat.le_refl _)
  · obtain ⟨ev, h1, h2⟩ := hT.syn
    refine (Tryz.strconv_ParseInt_10_at64_syntax s hs h ev w h1 h2).mono fun e w' ⟨n, he, _, _, hb⟩ => ⟨⟨0, _, he, by decide, .inr ⟨⟨_, rfl⟩, fun x hx => by rw [h] at hx; cases hx⟩⟩, hb⟩
  · obtain ⟨ev, h1, h2⟩ := hT.rng
    refine (Tryz.strconv_ParseInt_10_at64_range s hs h ev w h1 h2).mono fun e w' ⟨n, he, _, _, hb⟩ => ⟨⟨_, _, he, intSat_rng _, .inr ⟨⟨_, rfl⟩, fun x hx => by rw [h] at hx; cases hx⟩⟩, hb⟩

theorem trim_len (l p : List UInt8) : (trimPrefix l p).length ≤ l.length := by
  unfold trimPrefix
  split
  · rw [List.length_drop]; omega
  · exact Nat.le_refl _
theorem cut_len1 (l p : List UInt8) : (cut l p).1.length ≤ l.length := by
  unfold cut
  split
  · simp only [List.length_take]; omega
  · exact Nat.le_refl _
theorem cut_len2 (l p : List UInt8) : (cut l p).2.1.length ≤ l.length := by
  unfold cut
  split
  · simp only [List.length_drop]; omega
  · exact Nat.zero_le _
theorem parseP_no1 {s : List UInt8} (h : ∀ x, parseIntB 64 (cut (trimPrefix s countT) bytesT).1 ≠ .ok x) : parseP s = none := by
  unfold parseP
  split
  · rename_i h1 _; exact absurd h1 (h _)
  · rfl
theorem parseP_no2 {s : List UInt8} (h : ∀ x, parseIntB 64 (cut (trimPrefix s countT) bytesT).2.1 ≠ .ok x) : parseP s = none := by
  unfold parseP
  split
  · rename_i _ h1; exact absurd h1 (h _)
  · rfl
theorem parseP_ok {s : List UInt8} {c b : Int} (h1 : parseIntB 64 (cut (trimPrefix s countT) bytesT).1 = .ok c) (h2 : parseIntB 64 (cut (trimPrefix s countT) bytesT).2.1 = .ok b) : parseP s = if -1 ≤ c ∧ -1 ≤ b ∧ quoT c b = s then some (c, b) else none := by
  unfold parseP
  rw [h1, h2]

theorem qparse_any (s : ByteArray) (w : World) (hs : s.size ≤ 4294967280) (hT : TxtW w) : Calls Tryz.prog 12 #[.string s] w (ParOut (parseP s.data.toList) w) := by
  obtain ⟨W1, hW1⟩ : ∃ W1, W1 = w.alloc (.cells zeroQuo 23) := ⟨_, rfl⟩
  have hE1 : Ext w W1 := by rw [hW1]; exact Ext.alloc _ _
  have hr1 : W1.heap[w.heap.size]? = some (.cells zeroQuo 23 (0, 0)) := by rw [hW1]; exact heap_alloc_new w _
  have hz1 : w.heap.size < W1.heap.size := by rw [hW1]; simp
  have hl0 := size_len s
  have hl1 := trim_len s.data.toList countT
  have hl2 := cut_len1 (trimPrefix s.data.toList countT) bytesT
  have hl3 := cut_len2 (trimPrefix s.data.toList countT) bytesT
  have hT1 := hT.ext hE1
  obtain ⟨mx, hmx⟩ := hT1.max
  have ct := Tryz.strings_TrimPrefix s ⟨#[99, 111, 117, 110, 116, 61]⟩ W1
  have cc := Tryz.strings_Cut ⟨(trimPrefix s.data.toList countT).toArray⟩ ⟨#[44, 98, 121, 116, 101, 115, 61]⟩ mx W1 (by show (trimPrefix s.data.toList countT).toArray.size < _; rw [List.size_toArray]; omega) hmx
  have ct : Calls Tryz.prog 65 #[.string s, .string ⟨#[99, 111, 117, 110, 116, 61]⟩] W1 fun e w' => e = .returned (.string ⟨(trimPrefix s.data.toList countT).toArray⟩) ∧ w' = W1 := ct
  have cc : Calls Tryz.prog 64 #[.string ⟨(trimPrefix s.data.toList countT).toArray⟩, .string ⟨#[44, 98, 121, 116, 101, 115, 61]⟩] W1 fun e w' => (∃ fb : Bool, e = .returned (.tuple #[.string ⟨(cut (trimPrefix s.data.toList countT) bytesT).1.toArray⟩, .string ⟨(cut (trimPrefix s.data.toList countT) bytesT).2.1.toArray⟩, .bool fb])) ∧ Ext W1 w' :=
    cc.mono fun e w' ⟨he, n, hw⟩ => ⟨⟨_, he⟩, by rw [hw]; exact below_drewN (Below.refl _ _) _⟩
  have hno1 := Lib.hid (fun h => parseP_no1 (s := s.data.toList) h)
  have hno2 := Lib.hid (fun h => parseP_no2 (s := s.data.toList) h)
  have hok := Lib.hid (fun c b h1 h2 => parseP_ok (s := s.data.toList) (c := c) (b := b) h1 h2)
  obtain ⟨t1, ht1⟩ : ∃ t1, t1 = (trimPrefix s.data.toList countT) := ⟨_, rfl⟩
  rw [← ht1] at ct cc hno1 hno2 hok hl1 hl2 hl3
  clear ht1
  obtain ⟨l1, hl1'⟩ : ∃ l1, l1 = (cut t1 bytesT).1 := ⟨_, rfl⟩
  obtain ⟨l2, hl2'⟩ : ∃ l2, l2 = (cut t1 bytesT).2.1 := ⟨_, rfl⟩
  rw [← hl1'] at cc hno1 hok hl2
  rw [← hl2'] at cc hno2 hok hl3
  clear hl1' hl2'
  have CT := Lib.hid ct
  have CC := Lib.hid cc
  have P1 := Lib.hid (fun W h => pint_any ⟨l1.toArray⟩ W (by show l1.toArray.size ≤ _; rw [List.size_toArray]; omega) h)
  have P2 := Lib.hid (fun W h => pint_any ⟨l2.toArray⟩ W (by show l2.toArray.size ≤ _; rw [List.size_toArray]; omega) h)
  have HT := Lib.hid hT
  have HE1 := Lib.hid hE1
  have HR1 := Lib.hid hr1
  clear hl0 hl1 hl2 hl3 ct cc hT hT1 hmx hE1 hr1
  unfold zeroQuo at hW1
  go_enter Tryz.func12, Tryz.ntmps12
  go_wp2_with fail
  rw [← hW1]
  refine CT.out.mono ?_
  rintro e W2 ⟨rfl, rfl⟩
  clear CT hW1
  go_wp2_with fail
  refine CC.out.mono ?_
  rintro e W2 ⟨⟨fb, rfl⟩, hE2⟩
  have HE2 := Lib.hid (HE1.out.trans hE2)
  have HR2 := Lib.hid ((hE2.block _ hz1).trans HR1.out)
  have hz2 := Nat.lt_of_lt_of_le hz1 hE2.size
  clear CC hE2 HE1 HR1
  go_wp2_with fail
  refine (P1.out W2 (HT.out.ext HE2.out)).mono ?_
  rintro e W3 ⟨⟨v1, ev1, rfl, hb1, hd1⟩, hE3⟩
  have HE3 := Lib.hid (HE2.out.trans hE3)
  have HR3 := Lib.hid ((hE3.block _ hz2).trans HR2.out)
  have HD1 := Lib.hid hd1
  have hz3 := Nat.lt_of_lt_of_le hz2 hE3.size
  clear P1 hE3 HE2 HR2 hd1
  go_wp2_with fail
  refine (P2.out W3 (HT.out.ext HE3.out)).mono ?_
  rintro e W4 ⟨⟨v2, ev2, rfl, hb2, hd2⟩, hE4⟩
  have HE4 := Lib.hid (HE3.out.trans hE4)
  have HR4 := Lib.hid ((hE4.block _ hz3).trans HR3.out)
  have HD2 := Lib.hid hd2
  have hz4 := Nat.lt_of_lt_of_le hz3 hE4.size
  clear P2 hE4 HE3 HR3 hd2
  have HRA := Lib.hid (heap_alloc_new W4 (.cells zeroQuo 23))
  have HSA := Lib.hid (fun cs => setRow_alloc W4 zeroQuo cs 23)
  have HRB := Lib.hid (heap_alloc_new W4 (.cells #[.bool true, .int .i64 v1, .int .i64 v2] 23))
  have HEB := Lib.hid (Ext.alloc W4 (.cells #[.bool true, .int .i64 v1, .int .i64 v2] 23))
  have CX := Lib.hid (qquoText_any true v1 v2 (W4.alloc (.cells #[.bool true, .int .i64 v1, .int .i64 v2] 23)) hb1 hb2 (HT.out.ext (HE4.out.trans HEB.out)).tab)
  unfold zeroQuo at HRA HSA
  go_wp2_with (first | (refine wpList_store_row rfl 23 (.tmp 11) (.tmp 33) rfl W4.heap.size _ rfl rfl 23 _ HRA.out sizeQuo rfl (by simp [Value.oneCell']) ?_; rw [HSA.out]) | (refine wpList_load_row rfl 23 (.tmp 11) rfl W4.heap.size rfl 23 _ (0, 0) _ HRB.out Tryz.underlying23 rfl sizeQuo ?_))
  refine CX.out.mono ?_
  rintro e W5 ⟨rfl, hE5⟩
  have HE5 := Lib.hid ((HE4.out.trans HEB.out).trans hE5)
  have hza : (W4.alloc (.cells #[.bool true, .int .i64 v1, .int .i64 v2] 23)).heap.size = W4.heap.size + 1 := by simp
  have HR5 := Lib.hid ((hE5.block _ (by rw [hza]; omega)).trans ((HEB.out.block _ hz4).trans HR4.out))
  have HQ5 := Lib.hid ((hE5.block W4.heap.size (by rw [hza]; omega)).trans HRB.out)
  have HR6 := Lib.hid (fun cs => setRow_heap W5 w.heap.size zeroQuo cs 23 (0, 0) HR5.out)
  have HE6 := Lib.hid (fun cs => HE5.out.trans' (c := W5.setRow w.heap.size cs) ⟨rfl, rfl, rfl, by simp [World.setRow], fun k hk => setRow_other _ _ _ _ (by omega)⟩)
  clear CX hE5 HE4 HEB HRA HSA HRB HR4 hza
  unfold zeroQuo at HR5
  by_cases hg : -1 ≤ v1 ∧ -1 ≤ v2
  · rw [show textV true v1 v2 = .tuple #[.string ⟨(quoT v1 v2).toArray⟩, .int .i64 0] from if_pos ⟨rfl, hg.1, hg.2⟩]
    rcases HD1.out with ⟨rfl, hp1⟩ | ⟨⟨p1, rfl⟩, hn1⟩
    · rcases HD2.out with ⟨rfl, hp2⟩ | ⟨⟨p2, rfl⟩, hn2⟩
      · by_cases hq : quoT v1 v2 = s.data.toList
        · have HP := Lib.hid ((hok.out v1 v2 hp1 hp2).trans (if_pos ⟨hg.1, hg.2, hq⟩))
          have hf : (quoT v1 v2 == s.toList) = true := by rw [ByteArray.toList_eq]; simpa using hq
          clear hq hp1 hp2 HD1 HD2 hok hno1 hno2
          generalize (quoT v1 v2) = qt at *
          go_wp2_with (first | (refine wpList_store_row rfl 23 (.tmp 2) (.tmp 55) rfl w.heap.size _ rfl rfl 23 _ HR5.out sizeQuo rfl (by simp [Value.oneCell']) ?_) | (refine wpList_load_row rfl 23 (.tmp 11) rfl W4.heap.size rfl 23 _ (0, 0) _ HQ5.out Tryz.underlying23 rfl sizeQuo ?_))
          refine bodyPost_ret (v := .tuple #[.agg (quoC (some (v1, v2))), .int .i64 (quoE (some (v1, v2)))]) ?_ rfl ⟨by rw [HP.out], HE6.out _⟩
          exact results_cell_row2 (p := 2) (q := 3) (ty := 23) rfl _ _ w.heap.size 23 _ (0, 0) _ _ rfl rfl (HR6.out _) Tryz.underlying23 rfl sizeQuo
        · have HP := Lib.hid ((hok.out v1 v2 hp1 hp2).trans (if_neg fun h => hq h.2.2))
          have hf : (quoT v1 v2 == s.toList) = false := by rw [ByteArray.toList_eq]; simpa using hq
          clear hq hp1 hp2 HD1 HD2 hok hno1 hno2
          generalize (quoT v1 v2) = qt at *
          go_wp2_with (refine wpList_store_row rfl 23 (.tmp 2) (.tmp 54) rfl w.heap.size _ rfl rfl 23 _ HR5.out sizeQuo rfl (by simp [Value.oneCell']) ?_)
          refine bodyPost_ret (v := .tuple #[.agg (quoC none), .int .i64 (quoE none)]) ?_ rfl ⟨by rw [HP.out], HE6.out _⟩
          exact results_cell_row2 (p := 2) (q := 3) (ty := 23) rfl _ _ w.heap.size 23 _ (0, 0) _ _ rfl rfl (HR6.out _) Tryz.underlying23 rfl sizeQuo
      · have HP := Lib.hid (hno2.out hn2)
        clear hn2 hp1 HD1 HD2 hok hno1 hno2
        go_wp2_with (refine wpList_store_row rfl 23 (.tmp 2) (.tmp 54) rfl w.heap.size _ rfl rfl 23 _ HR5.out sizeQuo rfl (by simp [Value.oneCell']) ?_)
        refine bodyPost_ret (v := .tuple #[.agg (quoC none), .int .i64 (quoE none)]) ?_ rfl ⟨by rw [HP.out], HE6.out _⟩
        exact results_cell_row2 (p := 2) (q := 3) (ty := 23) rfl _ _ w.heap.size 23 _ (0, 0) _ _ rfl rfl (HR6.out _) Tryz.underlying23 rfl sizeQuo
    · have HP := Lib.hid (hno1.out hn1)
      have hd2 : (ev2 = .nilIface) ∨ (∃ p, ev2 = .iface 248 p) := HD2.out.elim (fun h => .inl h.1) fun h => .inr h.1
      clear hn1 HD1 HD2 hok hno1 hno2
      rcases hd2 with rfl | ⟨p2, rfl⟩
      · go_wp2_with (refine wpList_store_row rfl 23 (.tmp 2) (.tmp 54) rfl w.heap.size _ rfl rfl 23 _ HR5.out sizeQuo rfl (by simp [Value.oneCell']) ?_)
        refine bodyPost_ret (v := .tuple #[.agg (quoC none), .int .i64 (quoE none)]) ?_ rfl ⟨by rw [HP.out], HE6.out _⟩
        exact results_cell_row2 (p := 2) (q := 3) (ty := 23) rfl _ _ w.heap.size 23 _ (0, 0) _ _ rfl rfl (HR6.out _) Tryz.underlying23 rfl sizeQuo
      · go_wp2_with (refine wpList_store_row rfl 23 (.tmp 2) (.tmp 54) rfl w.heap.size _ rfl rfl 23 _ HR5.out sizeQuo rfl (by simp [Value.oneCell']) ?_)
        refine bodyPost_ret (v := .tuple #[.agg (quoC none), .int .i64 (quoE none)]) ?_ rfl ⟨by rw [HP.out], HE6.out _⟩
        exact results_cell_row2 (p := 2) (q := 3) (ty := 23) rfl _ _ w.heap.size 23 _ (0, 0) _ _ rfl rfl (HR6.out _) Tryz.underlying23 rfl sizeQuo
  · rw [show textV true v1 v2 = .tuple #[.string ⟨#[]⟩, .int .i64 1] from if_neg fun h => hg ⟨h.2.1, h.2.2⟩]
    rcases HD1.out with ⟨rfl, hp1⟩ | ⟨⟨p1, rfl⟩, hn1⟩
    · rcases HD2.out with ⟨rfl, hp2⟩ | ⟨⟨p2, rfl⟩, hn2⟩
      · have HP := Lib.hid ((hok.out v1 v2 hp1 hp2).trans (if_neg fun h => hg ⟨h.1, h.2.1⟩))
        clear hp1 hp2 HD1 HD2 hok hno1 hno2
        go_wp2_with (refine wpList_store_row rfl 23 (.tmp 2) (.tmp 54) rfl w.heap.size _ rfl rfl 23 _ HR5.out sizeQuo rfl (by simp [Value.oneCell']) ?_)
        refine bodyPost_ret (v := .tuple #[.agg (quoC none), .int .i64 (quoE none)]) ?_ rfl ⟨by rw [HP.out], HE6.out _⟩
        exact results_cell_row2 (p := 2) (q := 3) (ty := 23) rfl _ _ w.heap.size 23 _ (0, 0) _ _ rfl rfl (HR6.out _) Tryz.underlying23 rfl sizeQuo
      · have HP := Lib.hid (hno2.out hn2)
        clear hn2 hp1 HD1 HD2 hok hno1 hno2
        go_wp2_with (refine wpList_store_row rfl 23 (.tmp 2) (.tmp 54) rfl w.heap.size _ rfl rfl 23 _ HR5.out sizeQuo rfl (by simp [Value.oneCell']) ?_)
        refine bodyPost_ret (v := .tuple #[.agg (quoC none), .int .i64 (quoE none)]) ?_ rfl ⟨by rw [HP.out], HE6.out _⟩
        exact results_cell_row2 (p := 2) (q := 3) (ty := 23) rfl _ _ w.heap.size 23 _ (0, 0) _ _ rfl rfl (HR6.out _) Tryz.underlying23 rfl sizeQuo
    · have HP := Lib.hid (hno1.out hn1)
      have hd2 : (ev2 = .nilIface) ∨ (∃ p, ev2 = .iface 248 p) := HD2.out.elim (fun h => .inl h.1) fun h => .inr h.1
      clear hn1 HD1 HD2 hok hno1 hno2
      rcases hd2 with rfl | ⟨p2, rfl⟩
      · go_wp2_with (refine wpList_store_row rfl 23 (.tmp 2) (.tmp 54) rfl w.heap.size _ rfl rfl 23 _ HR5.out sizeQuo rfl (by simp [Value.oneCell']) ?_)
        refine bodyPost_ret (v := .tuple #[.agg (quoC none), .int .i64 (quoE none)]) ?_ rfl ⟨by rw [HP.out], HE6.out _⟩
        exact results_cell_row2 (p := 2) (q := 3) (ty := 23) rfl _ _ w.heap.size 23 _ (0, 0) _ _ rfl rfl (HR6.out _) Tryz.underlying23 rfl sizeQuo
      · go_wp2_with (refine wpList_store_row rfl 23 (.tmp 2) (.tmp 54) rfl w.heap.size _ rfl rfl 23 _ HR5.out sizeQuo rfl (by simp [Value.oneCell']) ?_)
        refine bodyPost_ret (v := .tuple #[.agg (quoC none), .int .i64 (quoE none)]) ?_ rfl ⟨by rw [HP.out], HE6.out _⟩
        exact results_cell_row2 (p := 2) (q := 3) (ty := 23) rfl _ _ w.heap.size 23 _ (0, 0) _ _ rfl rfl (HR6.out _) Tryz.underlying23 rfl sizeQuo
end Go.Proofs.YthinpbdbhijbgaaGreatDoor
namespace Go.Proofs.YthinpbdbhijbgaaGreatDoor
open Go.RowKit
set_option maxHeartbeats 2000000
set_option maxRecDepth 100000

/-- The copy's cells are new. -/
def CloneNew (n : Nd) (w : World) (e : Ending) (w' : World) : Prop := ∃ v, e = .returned v ∧ NdS (fun k => w.heap.size ≤ k ∧ k < w'.heap.size) w' v n ∧ Below w.heap.size w w'

end Go.Proofs.YthinpbdbhijbgaaGreatDoor
namespace Go.Proofs.YthinpbdbhijbgaaGreatDoor
open Go.RowKit
set_option maxHeartbeats 2000000
set_option maxRecDepth 100000

end Go.Proofs.YthinpbdbhijbgaaGreatDoor
namespace Go.Proofs.YthinpbdbhijbgaaGreatDoor
open Go.RowKit Go.Sort
set_option maxHeartbeats 2000000
set_option maxRecDepth 100000

/-- A tree of the walk's own blocks. -/
def Own (B : Nat) (w : World) (bt : Nat) (M : List (Key × Nd)) (N : Nat) : Prop := TreeAt (fun k => B ≤ k ∧ k < w.heap.size) w bt M N
theorem Own.ext {B : Nat} {w w' : World} {bt : Nat} {M : List (Key × Nd)} {N : Nat} (h : Own B w bt M N) (he : Ext w w') : Own B w' bt M N :=
  (TreeAt.ext h he).keep (fun _ _ => rfl) (fun _ hk => ⟨hk.1, Nat.lt_of_lt_of_le hk.2 he.size⟩) (fun _ hk => hk.2) (Nat.le_refl _)

end Go.Proofs.YthinpbdbhijbgaaGreatDoor
namespace Go.Proofs.YthinpbdbhijbgaaGreatDoor
open Go.RowKit
set_option maxHeartbeats 1000000

theorem before_asymm : ∀ {a b : List UInt8}, bytesBefore a b = true → bytesBefore b a = true → False
  | [], [], h, _ => by simp [bytesBefore] at h
  | [], _ :: _, _, h => by simp [bytesBefore] at h
  | _ :: _, [], h, _ => by simp [bytesBefore] at h
  | x :: a, y :: b, h, k => by
    simp only [bytesBefore, Bool.or_eq_true, Bool.and_eq_true, decide_eq_true_eq, beq_iff_eq] at h k
    rcases h with h | ⟨rfl, h⟩
    · rcases k with k | ⟨rfl, k⟩
      · exact absurd h (UInt8.lt_asymm k)
      · exact absurd h (UInt8.lt_irrefl _)
    · rcases k with k | ⟨_, k⟩
      · exact absurd k (UInt8.lt_irrefl _)
      · exact before_asymm h k

theorem MOk.take {M : List (Key × Nd)} (h : MOk M) (m : Nat) : MOk (M.take m) :=
  ⟨List.Pairwise.sublist (List.take_sublist m M) h.sorted, fun x hx => h.key x (List.mem_of_mem_take hx), fun x hx => h.right x (List.mem_of_mem_take hx)⟩

end Go.Proofs.YthinpbdbhijbgaaGreatDoor
namespace Go.Proofs.YthinpbdbhijbgaaGreatDoor
open Go.RowKit
set_option maxHeartbeats 400000

theorem fields_of {t : TypeId} {fs : Array Field} (h : Tryz.prog.underlying t = some (.struct fs)) : Tryz.prog.fieldsOf t = fs := by
  unfold Program.fieldsOf; rw [h]
theorem eq_agg (w : World) (d : Nat) (t : TypeId) (fs : Array Field) (xs ys : Array Value) (h : Tryz.prog.underlying t = some (.struct fs)) (hp : Tryz.prog.stoodInHeld t = false) :
    (Op.equalIn (d + 1) t (.agg xs) (.agg ys)).run Tryz.prog w = (Op.eqFields d xs ys fs.toList).run Tryz.prog w := by
  rw [run_equalIn_agg w d t xs ys (by rw [fields_of h]; exact h) hp, fields_of h]

def eqQ (h : Bool) (a b : Int) (h' : Bool) (a' b' : Int) : Bool := h == h' && (a == a' && b == b')
theorem eq_q (w : World) (d : Nat) (h : Bool) (a b : Int) (h' : Bool) (a' b' : Int) : (Op.equalIn (d + 2) 23 (.agg #[.bool h, .int .i64 a, .int .i64 b]) (.agg #[.bool h', .int .i64 a', .int .i64 b'])).run Tryz.prog w = .ok (eqQ h a b h' a' b') w := by
  rw [eq_agg w (d + 1) _ _ _ _ Tryz.underlying23 (by kernel_rfl)]
  simp [Op.eqFields, part, go_sem]
  unfold eqQ
  repeat' split
  all_goals simp_all
theorem neq_q (w : World) (h : Bool) (a b : Int) (h' : Bool) (a' b' : Int) : (binOp .neq 23 (.agg #[.bool h, .int .i64 a, .int .i64 b]) (.agg #[.bool h', .int .i64 a', .int .i64 b'])).run Tryz.prog w = .ok (.bool (!eqQ h a b h' a' b')) w := by
  rw [run_neq_struct, eq_q w 9998]; rfl
end Go.Proofs.YthinpbdbhijbgaaGreatDoor
namespace Go.Proofs.YthinpbdbhijbgaaGreatDoor
open Go.RowKit
set_option maxHeartbeats 2000000
set_option maxRecDepth 100000

end Go.Proofs.YthinpbdbhijbgaaGreatDoor
namespace Go.Proofs.YthinpbdbhijbgaaGreatDoor
open Go.RowKit Go.Sort
set_option maxHeartbeats 4000000
set_option maxRecDepth 100000
attribute [local go_sem] Oper.semAt_some

theorem nodesOf_vals {M : List (Key × Nd)} (h : MSorted M) : nodesOf M (M.map (·.1)) = M.map (·.2) := by
  unfold nodesOf
  rw [List.map_map]
  refine List.map_congr_left fun x hx => ?_
  show (mget M x.1).getD zeroN = x.2
  rw [mget_of_mem h (show (x.1, x.2) ∈ M from hx)]
  rfl

theorem NdsAt.ext {w w' : World} {a : Option Addr} {L : List Nd} (h : NdsAt w.heap.size w a L) (hb : Ext w w') : NdsAt w'.heap.size w' a L := fun i n hi => by
  obtain ⟨b, off, v, h1, h2, h3, h4⟩ := h i n hi
  exact ⟨b, off, v, h1, Nat.lt_of_lt_of_le h2 hb.size, (h3.below hb).mono hb.size, fun j u hj => (hb.cell (p := ⟨b, off + i * 17 + j, none⟩) h2).trans (h4 j u hj)⟩

/-- The first loop's rounds. -/
structure WalkC (S : Nat → Prop) (bt ga N : Nat) (M : List (Key × Nd)) (w W7 : World) (m at' : Nat) (W : World) : Prop where
  one : 1 ≤ m
  le : m ≤ M.length
  tree : TreeAt S W bt (M.take m) N
  box : W.heap[ga]? = some (.cells #[.int .i64 at'] 3 (0, 0))
  cells : ∀ k c e f, W7.heap[k]? = some (.cells c e f) → k ≠ ga → W.heap[k]? = some (.cells c e f)
  size : W7.heap.size ≤ W.heap.size
  keep : Below w.heap.size w W
theorem WalkC.turn {S : Nat → Prop} {bt ga N : Nat} {M : List (Key × Nd)} {w W7 : World} {m p : Nat} {X Y : World} (h : WalkC S bt ga N M w W7 m p X) (hT : Turn W7.heap.size X Y) (hS : ∀ k, S k → k < W7.heap.size) (hw : w.heap.size ≤ W7.heap.size) : WalkC S bt ga N M w W7 m p Y :=
  ⟨h.one, h.le, h.tree.keep (fun k hk => by
      have hlt := h.tree.bound k hk
      rw [hT.same k _ (Array.getElem?_eq_getElem hlt) (.inl (hS k hk)), Array.getElem?_eq_getElem hlt]) (fun _ h => h) (fun k hk => Nat.lt_of_lt_of_le (h.tree.bound k hk) hT.size) (Nat.le_refl _),
    hT.cells h.box, fun k c e f hk hn => hT.cells (h.cells k c e f hk hn), Nat.le_trans h.size hT.size, h.keep.trans (hT.below hw h.keep.size)⟩

/-- What a round's steps keep. -/
structure Kp (B ga : Nat) (W W' : World) : Prop where
  recs : KeepsRec B W W'
  cells : KeepS (fun _ k => k ≠ ga) W W'
theorem Kp.trans {B ga : Nat} {X Y Z : World} (h : Kp B ga X Y) (k : Kp B ga Y Z) : Kp B ga X Z :=
  ⟨h.recs.trans k.recs, Nat.le_trans h.cells.1 k.cells.1, fun i c e f hi hs => k.cells.2 i c e f (h.cells.2 i c e f hi hs).1 hs⟩
theorem Kp.ext {B ga : Nat} {W W' : World} (h : Ext W W') : Kp B ga W W' :=
  ⟨KeepsRec.of_ext h, h.size, fun _ _ _ _ hk hs => ⟨(h.block _ (Array.getElem?_eq_some_iff.1 hk).1).trans hk, hs⟩⟩
theorem Kp.set {B ga : Nat} (W : World) (cs : Array Value) (h : ga < B) : Kp B ga W (W.setRow ga cs) :=
  ⟨⟨by simp, fun k o hB hk _ => (setRow_other _ _ _ _ (by omega)).trans hk⟩, by simp, fun k c e f hk hs => ⟨(setRow_other _ _ _ _ hs).trans hk, hs⟩⟩
theorem Kp.mod {B ga : Nat} {S : Nat → Prop} {W W' : World} (h : Mod S W W') (hS : ∀ k, S k → k < B) : Kp B ga W W' :=
  ⟨⟨h.size, fun k o hB hk _ => h.same k o hk (.inl fun hs => by have := hS k hs; omega)⟩, h.size, fun _ _ _ _ hk hs => ⟨h.cells hk, hs⟩⟩
theorem WalkC.ext {S : Nat → Prop} {bt ga N : Nat} {M : List (Key × Nd)} {w W7 : World} {m p : Nat} {X Y : World} (h : WalkC S bt ga N M w W7 m p X) (hE : Ext X Y) (hS : ∀ k, S k → k < W7.heap.size) (hw : w.heap.size ≤ W7.heap.size) : WalkC S bt ga N M w W7 m p Y :=
  h.turn (Turn.of_ext hE) hS hw
theorem WalkC.cell {S : Nat → Prop} {bt ga N : Nat} {M : List (Key × Nd)} {w W7 : World} {m p : Nat} {X : World} (h : WalkC S bt ga N M w W7 m p X) {b o : Nat} {u : Value} (hu : W7.cell? ⟨b, o, none⟩ = some u) (hb : b ≠ ga) : X.cell? ⟨b, o, none⟩ = some u := by
  obtain ⟨c', e', f', hk'⟩ := cell_cells hu
  rw [World.cell?_of_block ((h.cells b c' e' f' hk' hb).trans hk'.symm)]
  exact hu


end Go.Proofs.YthinpbdbhijbgaaGreatDoor
namespace Go.Proofs.YthinpbdbhijbgaaGreatDoor
open Go.RowKit
set_option maxHeartbeats 2000000

section
variable {P : Program} {o : Oper} {a : Act} {w : World}
end

/-- All is as it was, but for blocks of a set. -/
structure Chg (S : Nat → Prop) (w w' : World) : Prop where
  os : w'.os = w.os
  tape : w'.tape = w.tape
  output : w'.output = w.output
  size : w.heap.size ≤ w'.heap.size
  same : ∀ k, k < w.heap.size → ¬ S k → w'.heap[k]? = w.heap[k]?
theorem Chg.refl (S : Nat → Prop) (w : World) : Chg S w w := ⟨rfl, rfl, rfl, Nat.le_refl _, fun _ _ _ => rfl⟩
theorem Chg.trans {S S' : Nat → Prop} {a b c : World} (h : Chg S a b) (k : Chg S' b c) (hS : ∀ i, i < a.heap.size → S' i → S i) : Chg S a c :=
  ⟨k.os.trans h.os, k.tape.trans h.tape, k.output.trans h.output, Nat.le_trans h.size k.size, fun i hi hn => (k.same i (Nat.lt_of_lt_of_le hi h.size) fun hs => hn (hS i hi hs)).trans (h.same i hi hn)⟩
theorem Chg.of_ext {S : Nat → Prop} {a b : World} (h : Ext a b) : Chg S a b := ⟨h.os, h.tape, h.output, h.size, fun k hk _ => h.block k hk⟩
theorem Chg.set {S : Nat → Prop} (r : Nat) (w : World) (cs : Array Value) (hr : S r) : Chg S w (w.setRow r cs) := ⟨rfl, rfl, rfl, by simp, fun k _ hn => setRow_other _ _ _ _ fun e => hn (e ▸ hr)⟩
theorem Chg.grown {S : Nat → Prop} {a b : World} {row : Option Nat} (h : a.grownBy b row) (hr : ∀ k, row = some k → k < a.heap.size → S k) : Chg S a b :=
  ⟨h.os, h.tape, h.output, h.size, fun k hk hn => h.block k hk fun e => hn (hr k e.symm hk)⟩
theorem Chg.below {S : Nat → Prop} {B : Nat} {w w' : World} (h : Chg S w w') (hB : ∀ k, S k → B ≤ k) (hs : B ≤ w.heap.size) : Below B w w' :=
  ⟨h.os, h.tape, h.output, h.size, fun k hk => h.same k (by omega) fun hs => by have := hB k hs; omega⟩
theorem Chg.mono {S S' : Nat → Prop} {w w' : World} (h : Chg S w w') (hS : ∀ k, k < w.heap.size → S k → S' k) : Chg S' w w' := ⟨h.os, h.tape, h.output, h.size, fun k hk hn => h.same k hk fun hs => hn (hS k hk hs)⟩
end Go.Proofs.YthinpbdbhijbgaaGreatDoor
namespace Go.Proofs.YthinpbdbhijbgaaGreatDoor
open Go.RowKit
set_option maxHeartbeats 2000000
set_option maxRecDepth 100000

/-- Rows that show nodes, all in blocks of a set. -/
structure RowsOf (S : Nat → Prop) (w : World) (a : Option Addr) (vs : List (Array Value)) (L : List Nd) : Prop where
  len : vs.length = L.length
  cells : CellsS S w a (vs.flatMap Array.toList)
  each : ∀ (j : Nat) (cs : Array Value), vs[j]? = some cs → ∃ n, L[j]? = some n ∧ NdS S w (.agg cs) n

/-- A slice's address: none, or a plain one. -/
def PlainA (a : Option Addr) (cap : Nat) : Prop := (a = none ∧ cap = 0) ∨ ∃ b off, a = some ⟨b, off, none⟩

theorem RowsOf.imp {S S' : Nat → Prop} {w w' : World} {a : Option Addr} {vs : List (Array Value)} {L : List Nd} (h : RowsOf S w a vs L) (hS : ∀ b, S b → S' b) (hw : ∀ k, S k → w'.heap[k]? = w.heap[k]?) : RowsOf S' w' a vs L :=
  ⟨h.len, h.cells.imp hS fun b o u hb hu => (World.cell?_of_block (hw b hb)).trans hu, fun j cs hj => by
    obtain ⟨n, hn, hN⟩ := h.each j cs hj
    exact ⟨n, hn, NdS.imp hN hS fun b o u hb hu => (World.cell?_of_block (hw b hb)).trans hu⟩⟩
theorem RowsOf.v17 {S : Nat → Prop} {w : World} {a : Option Addr} {vs : List (Array Value)} {L : List Nd} (h : RowsOf S w a vs L) : ∀ x ∈ vs, x.size = 17 := fun x hx => by
  obtain ⟨i, hi, ei⟩ := List.getElem_of_mem hx
  obtain ⟨n2, _, da2, dc2, aa2, ac2, e2, _⟩ := h.each i x (by rw [List.getElem?_eq_getElem hi, ei])
  simp only [Value.agg.injEq] at e2
  rw [e2]; rfl
/-- The j-th row. -/
theorem RowsOf.row {S : Nat → Prop} {w : World} {a : Option Addr} {vs : List (Array Value)} {L : List Nd} (h : RowsOf S w a vs L) {j : Nat} {n : Nd} (hj : L[j]? = some n) :
    ∃ b off da dc aa ac, a = some ⟨b, off, none⟩ ∧ S b ∧ (∀ r u, (ndC n (.slice da n.data.length dc) (.slice aa n.acl.length ac))[r]? = some u → w.cell? ⟨b, off + j * 17 + r, none⟩ = some u) ∧ CellsS S w da (n.data.map u8v) ∧ CellsS S w aa (acCs n.acl) ∧ vs[j]? = some (ndC n (.slice da n.data.length dc) (.slice aa n.acl.length ac)) := by
  have hjl := (List.getElem?_eq_some_iff.1 hj).1
  have hvk : vs[j]? = some (vs[j]'(by rw [h.len]; exact hjl)) := List.getElem?_eq_getElem _
  obtain ⟨n', hn', da, dc, aa, ac, e, hD, hA⟩ := h.each j _ hvk
  obtain rfl : n' = n := by rw [hj] at hn'; exact (Option.some.inj hn').symm
  simp only [Value.agg.injEq] at e
  rw [e] at hvk
  have hfl := flat17 vs j _ h.v17 hvk
  obtain ⟨b, off, rfl, hb, _⟩ := h.cells (j * 17 + 0) _ (hfl 0 (.string n'.path) rfl)
  refine ⟨b, off, da, dc, aa, ac, rfl, hb, fun r u hr => ?_, hD, hA, hvk⟩
  obtain ⟨b', off', e1, _, c1⟩ := h.cells (j * 17 + r) _ (hfl r u hr)
  simp only [Option.some.injEq, Addr.mk.injEq, and_true] at e1
  obtain ⟨rfl, rfl⟩ := e1
  rw [Nat.add_assoc]; exact c1

/-- A row of the call's own that shows nodes. -/
theorem RowsOf.of_own {S : Nat → Prop} {w : World} {base n : Nat} {v : Value} {vs : List (Array Value)} {L : List Nd} (h : w.ownsRow base 44 17 v n (vs.flatMap Array.toList)) (hn : n = L.length) (hl : vs.length = L.length) (hS : ∀ k, base ≤ k → k < w.heap.size → S k)
    (he : ∀ (j : Nat) (cs : Array Value), vs[j]? = some cs → ∃ n, L[j]? = some n ∧ NdS S w (.agg cs) n) : ∃ a c, v = .slice a n c ∧ n ≤ c ∧ c ≤ maxLen ∧ RowsOf S w a vs L ∧ PlainA a c := by
  rcases h.2 with ⟨rfl, h0⟩ | ⟨g, cap, cur, rfl, hb, hg, h1, h2, h3, h4⟩
  · have hL : L = [] := List.eq_nil_of_length_eq_zero (by omega)
    have hv : vs = [] := List.eq_nil_of_length_eq_zero (by rw [hl, hL]; rfl)
    subst h0 hL hv
    exact ⟨none, 0, rfl, Nat.le_refl _, Nat.zero_le _, ⟨rfl, fun j u hj => by simp at hj, he⟩, .inl ⟨rfl, rfl⟩⟩
  · refine ⟨some ⟨g, 0, none⟩, cap, rfl, h1, h2, ⟨hl, fun j u hj => ?_, he⟩, .inr ⟨g, 0, rfl⟩⟩
    have hc := h.cells (g := g) rfl j u hj
    rw [addr_add] at hc
    exact ⟨g, 0, rfl, hS g hb (Array.getElem?_eq_some_iff.1 hg).1, hc⟩

theorem RowsOf.one {S : Nat → Prop} {w : World} {a : Option Addr} {vs : List (Array Value)} {L : List Nd} (h : RowsOf S w a vs L) : ∀ u ∈ vs.flatMap Array.toList, u.oneCell' = true := fun u hu => by
  obtain ⟨x, hx, hux⟩ := List.mem_flatMap.1 hu
  obtain ⟨i, hi, ei⟩ := List.getElem_of_mem hx
  obtain ⟨n2, _, da2, dc2, aa2, ac2, e2, _⟩ := h.each i x (by rw [List.getElem?_eq_getElem hi, ei])
  simp only [Value.agg.injEq] at e2
  have := cells_node n2 da2 aa2 n2.data.length n2.acl.length dc2 ac2
  rw [← e2, ← Array.all_toList] at this
  exact List.all_eq_true.1 this u hux

def EachN (S : Nat → Prop) (w : World) (vs : List (Array Value)) (L : List Nd) : Prop := vs.length = L.length ∧ ∀ (j : Nat) (cs : Array Value), vs[j]? = some cs → ∃ n, L[j]? = some n ∧ NdS S w (.agg cs) n
theorem EachN.append {S : Nat → Prop} {w : World} {vs vs' : List (Array Value)} {L L' : List Nd} (h : EachN S w vs L) (k : EachN S w vs' L') : EachN S w (vs ++ vs') (L ++ L') := by
  refine ⟨by rw [List.length_append, List.length_append, h.1, k.1], fun j cs hj => ?_⟩
  by_cases hl : j < vs.length
  · rw [List.getElem?_append_left hl] at hj
    rw [List.getElem?_append_left (by rw [← h.1]; exact hl)]
    exact h.2 j cs hj
  · rw [List.getElem?_append_right (by omega)] at hj
    rw [List.getElem?_append_right (by rw [← h.1]; omega), ← h.1]
    exact k.2 _ cs hj
theorem EachN.take {S : Nat → Prop} {w : World} {vs : List (Array Value)} {L : List Nd} (h : EachN S w vs L) (i : Nat) : EachN S w (vs.take i) (L.take i) := by
  refine ⟨by rw [List.length_take, List.length_take, h.1], fun j cs hj => ?_⟩
  rw [List.getElem?_take] at hj ⊢
  split at hj
  · rename_i hlt; rw [if_pos hlt]; exact h.2 j cs hj
  · cases hj
theorem EachN.drop {S : Nat → Prop} {w : World} {vs : List (Array Value)} {L : List Nd} (h : EachN S w vs L) (i : Nat) : EachN S w (vs.drop i) (L.drop i) := by
  refine ⟨by rw [List.length_drop, List.length_drop, h.1], fun j cs hj => ?_⟩
  rw [List.getElem?_drop] at hj ⊢
  exact h.2 _ cs hj
theorem EachN.one {S : Nat → Prop} {w : World} {cs : Array Value} {n : Nd} (h : NdS S w (.agg cs) n) : EachN S w [cs] [n] := by
  refine ⟨rfl, fun j c hj => ?_⟩
  cases j with
  | zero => simp at hj; subst hj; exact ⟨n, rfl, h⟩
  | succ j => simp at hj
theorem grown_of_ext {a b : World} (h : Ext a b) (row : Option Nat) : a.grownBy b row := ⟨h.os, h.tape, h.output, h.size, fun k hk _ => h.block k hk⟩


/-- As an argument's list of nodes. -/
theorem RowsOf.nds {S : Nat → Prop} {w : World} {a : Option Addr} {vs : List (Array Value)} {L : List Nd} (h : RowsOf S w a vs L) {B : Nat} (hS : ∀ k, S k → k < B) : NdsAt B w a L := fun i n hi => by
  obtain ⟨b, off, da, dc, aa, ac, e, hb, hc, hD, hA, _⟩ := h.row hi
  exact ⟨b, off, _, e, hS b hb, ⟨da, dc, aa, ac, rfl, hD.cells hS, hA.cells hS⟩, hc⟩
end Go.Proofs.YthinpbdbhijbgaaGreatDoor
namespace Go.Proofs.YthinpbdbhijbgaaGreatDoor
open Go.RowKit
set_option maxHeartbeats 1000000

/-- The nodes alone. -/
def nds (M : List (Key × Nd)) : List Nd := M.map (·.2)
theorem nds_length (M : List (Key × Nd)) : (nds M).length = M.length := List.length_map _
end Go.Proofs.YthinpbdbhijbgaaGreatDoor
