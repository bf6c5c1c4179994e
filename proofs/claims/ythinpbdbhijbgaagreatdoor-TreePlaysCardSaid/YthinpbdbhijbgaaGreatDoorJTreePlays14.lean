/- The walks of arborref05's Of, arborref07's Stat and Children. The walk of the law's Texts at two lists of the same texts. The law TreeSums, walked: at lists of nodes that are no longer than 1048576. A node put into a new box. The walk of the law's Nodes at two lists of the same nodes. The walk of stat.Same at two copies of a node. The walks of maps.EqualFunc at two maps of the same nodes, and of tree.Same. The walk of the law's Like: the program's tree and the document's tell the same at a path. A node that was cloned for it is appended to a row of the call's own: one law for the walk. The walks of arborref05's New and arborref07's Root. -/
import Derived.Test.YthinpbdbhijbgaaGreatDoorJTreePlays12
import Derived.Test.YthinpbdbhijbgaaGreatDoorJTreePlays11
import Derived.Test.YthinpbdbhijbgaaGreatDoorJTreePlays10
import Derived.Test.YthinpbdbhijbgaaGreatDoorJTreePlays6
import Derived.BigQuiet
import Derived.Test.YthinpbdbhijbgaaGreatDoorJTreePlays13
import Derived.Test.YthinpbdbhijbgaaGreatDoorJTreePlays8
import Derived.Test.YthinpbdbhijbgaaGreatDoorJTreePlays7
import Derived.Test.YthinpbdbhijbgaaGreatDoorJTreePlays5
import Derived.Test.YthinpbdbhijbgaaGreatDoorJTreePlays9
import Derived.Test.YthinpbdbhijbgaaGreatDoorJTreePlays4
namespace Go.Proofs.YthinpbdbhijbgaaGreatDoor
open Go.RowKit Go.Sort
set_option maxHeartbeats 4000000
set_option maxRecDepth 100000

theorem cver_eq (c k : Int) : wrap32 (wrap64 (wrap64 (2 * wrap64 c) - k) % 4294967296) = wrap32 (wrap32 (2 * c) - wrap32 k) := by
  unfold wrap32 wrap64
  omega

theorem rstof_any (n : Nd) (da aa : Option Addr) (dc ac : Nat) (k : Int) (w : World) (hf : Fit n) :
    Calls Tryz.prog 148 #[.agg (ndC n (.slice da n.data.length dc) (.slice aa n.acl.length ac)), .int .i64 k] w fun e w' => e = .returned (.agg (statC n k)) ∧ Ext w w' := by
  have hfd := hf.data
  obtain ⟨W1, hW1⟩ : ∃ W1, W1 = w.alloc (.cells (ndC n (.slice da n.data.length dc) (.slice aa n.acl.length ac)) 44) := ⟨_, rfl⟩
  have hE1 : Ext w W1 := by rw [hW1]; exact Ext.alloc _ _
  have hz1 : W1.heap.size = w.heap.size + 1 := by rw [hW1]; simp
  have hb1 : W1.heap[w.heap.size]? = some (.cells (ndC n (.slice da n.data.length dc) (.slice aa n.acl.length ac)) 44 (0, 0)) := by rw [hW1]; exact heap_alloc_new w _
  obtain ⟨W2, hW2⟩ : ∃ W2, W2 = W1.alloc (.cells zeroStat 139) := ⟨_, rfl⟩
  have hE2 : Ext W1 W2 := by rw [hW2]; exact Ext.alloc _ _
  have hz2 : W2.heap.size = w.heap.size + 1 + 1 := by rw [hW2]; simp [hz1]
  have hb2 := (hE2.block w.heap.size (by omega)).trans hb1
  have hs2 : W2.heap[w.heap.size + 1]? = some (.cells zeroStat 139 (0, 0)) := by rw [hW2, ← hz1]; exact heap_alloc_new W1 _
  have hx : Box W2 w.heap.size (ndC n (.slice da n.data.length dc) (.slice aa n.acl.length ac)) := fun j => cell_of_row _ _ _ _ _ _ hb2
  rw [hW2, hW1] at hx hs2
  unfold Box at hx
  unfold ndC zeroStat at hx hs2
  have HS2 := Lib.hid hs2
  clear hb1 hb2 hs2 hE1 hE2 hf hz1 hz2 hW2 hW1
  clear W2
  clear W1
  unfold ndC
  have hcv := cver_eq n.creates k
  have HCV := Lib.hid hcv
  clear hcv
  go_enter Tryz.func148, Tryz.ntmps148
  go_wp2
  refine bodyPost_ret (v := .agg (statC n k)) ?_ rfl ⟨rfl, (Ext.alloc _ _).trans (Ext.alloc _ _)⟩
  refine results_cell_row (p := 4) (ty := 139) rfl _ _ (w.heap.size + 1) 139 (statC n k) (0, 0) _ rfl ?_ Tryz.underlying139 rfl sizeStat
  have := heap_alloc_new (w.alloc (.cells (ndC n (.slice da n.data.length dc) (.slice aa n.acl.length ac)) 44)) (.cells (statC n k) 139)
  rw [World.size_alloc] at this
  unfold statC at this ⊢
  rw [← HCV.out] at this ⊢
  exact this

/-- A region's invariant: a row is stored by its operation k. -/
def StK (k : Nat) (W3 : World) (gs : Nat) (cs : Array Value) (d : Nat → Bool) (W : World) : Prop :=
  Chg (· = gs) W3 W ∧ W.heap[gs]? = some (.cells (if d k = true then cs else zeroStat) 139 (0, 0))
theorem StK.ext {k : Nat} {W3 : World} {gs : Nat} {cs : Array Value} {i : Nat} (hi : i ≠ k) (d d' : Nat → Bool) (w w' : World) (h : StK k W3 gs cs d w) (he : Ext w w') (hd : ∀ k, k ≠ i → d' k = d k) : StK k W3 gs cs d' w' := by
  obtain ⟨h1, h2⟩ := h
  refine ⟨h1.trans (Chg.of_ext (S := fun _ => False) he) (fun _ _ h => h.elim), ?_⟩
  rw [hd k (Ne.symm hi), he.block gs (Array.getElem?_eq_some_iff.1 h2).1]
  exact h2
def RstP (cs : Array Value) (b : Nat) (s : ByteArray) (k : Nat) (st : Array Value) : Nat → Value → Prop
  | 0, v => v = .agg cs
  | 1, v => v = .pointer (some ⟨b, 0, none⟩)
  | 2, v => v = .string s
  | 3, v => ∃ a c, v = .slice a k c
  | 4, v => v = .int .i64 k
  | 5, v => v = .agg st
  | 6, v => v = undef
  | _, v => v = .int .i64 0
theorem own_slice1 {w : World} {base n : Nat} {v : Value} {xs : List Value} {t : TypeId} (h : w.ownsRow base t 1 v n xs) : ∃ a c, v = .slice a n c := by
  rcases h.2 with ⟨h, h0⟩ | ⟨g, cap, cur, h, _⟩
  · exact ⟨none, 0, by rw [h, h0]⟩
  · exact ⟨_, cap, h⟩
theorem own_base {w : World} {base base' n m : Nat} {v : Value} {xs : List Value} {t : TypeId} (h : w.ownsRow base t m v n xs) (hb : base' ≤ base) : w.ownsRow base' t m v n xs :=
  ⟨h.1, h.2.imp id fun ⟨g, cap, cur, h1, h2, h3⟩ => ⟨g, cap, cur, h1, Nat.le_trans hb h2, h3⟩⟩

theorem rstat_any (w : World) (b : Nat) (M : List (Key × Nd)) (hR : RT w b (nds M)) (hM : MOk M) (s : ByteArray) (hs : s.size ≤ 9223372036854775800) (hl : M.length * 16 ≤ 140737488355328) :
    Calls Tryz.prog 81 #[.pointer (some ⟨b, 0, none⟩), .string s] w (StatOut M s w) := by
  obtain ⟨W0, hW0⟩ : ∃ W0, W0 = w.alloc (.cells zeroStat 139) := ⟨_, rfl⟩
  have hE0 : Ext w W0 := by rw [hW0]; exact Ext.alloc _ _
  have hz0 : W0.heap.size = w.heap.size + 1 := by rw [hW0]; simp
  have hr0 : W0.heap[w.heap.size]? = some (.cells zeroStat 139 (0, 0)) := by rw [hW0]; exact heap_alloc_new w _
  have C1 := rget_any W0 b M (hR.ext hE0) hM s hs
  have HW0 := Lib.hid hW0
  have HR := Lib.hid hR
  have HM := Lib.hid hM
  have hfit : Fit ((mget M s.data.toList).getD zeroN) := hM.fit s.data.toList
  unfold zeroStat at HW0
  clear hR hW0 hM
  go_enter Tryz.func81, Tryz.ntmps81
  go_wp2_with fail
  rw [← HW0.out]
  refine C1.mono ?_
  rintro e w1 ⟨v, rfl, hv, hE1⟩
  obtain ⟨da, dc, aa, ac, rfl, hD, hA⟩ := hv
  have hcase : (mget M s.data.toList).getD zeroN = (mget M s.data.toList).getD zeroN := rfl
  generalize hn : (mget M s.data.toList).getD zeroN = n at hD hA hfit ⊢
  clear hD hA hcase
  obtain ⟨W2, hW2⟩ : ∃ W2, W2 = w1.alloc (.cells (ndC n (.slice da n.data.length dc) (.slice aa n.acl.length ac)) 44) := ⟨_, rfl⟩
  have HSET := Lib.hid ((setRow_alloc w1 zeroNd (ndC n (.slice da n.data.length dc) (.slice aa n.acl.length ac)) 44).trans hW2.symm)
  have HNew := Lib.hid (heap_alloc_new w1 (.cells zeroNd 44))
  have hE2 : Ext w1 W2 := by rw [hW2]; exact Ext.alloc _ _
  have hb2 : W2.heap[w1.heap.size]? = some (.cells (ndC n (.slice da n.data.length dc) (.slice aa n.acl.length ac)) 44 (0, 0)) := by rw [hW2]; exact heap_alloc_new w1 _
  have hz1 := hE1.size
  have hz2 := hE2.size
  have hr2 := ((hE1.trans hE2).block w.heap.size (by omega)).trans hr0
  have hEw2 := (hE0.trans hE1).trans hE2
  unfold ndC at HSET
  unfold zeroNd at HSET HNew
  have HB2 := Lib.hid hb2
  have HR2 := Lib.hid hr2
  have HN := Lib.hid hn
  have HEW := Lib.hid hEw2
  have HFit := Lib.hid hfit
  clear C1 hW2 hE0 hE1 hE2 hb2 hr2 hEw2 hr0 hfit hn
  unfold ndC
  cases hg : mget M s.data.toList with
  | none =>
    have hfin : StatOut M s w (.returned (.tuple #[.agg zeroStat, .int .i64 70])) (W2.setRow w.heap.size zeroStat) := by
      refine ⟨by rw [hg]; rfl, HEW.out.trans' ⟨rfl, rfl, rfl, by simp, fun k hk => setRow_other _ _ _ _ (by omega)⟩⟩
    have hR4 := setRow_heap W2 w.heap.size _ zeroStat 139 (0, 0) HR2.out
    have HFIN := Lib.hid hfin
    have HR4 := Lib.hid hR4
    have HR2' := HR2.out
    unfold zeroStat at HR2'
    have HR3 := Lib.hid HR2'
    clear hfin hg hR4 HR2'
    go_wp2_with (first | (refine wpList_store_row rfl 44 (.tmp 6) (.tmp 12) rfl w1.heap.size _ rfl rfl 44 _ HNew.out sizeNd rfl (cells_node n da aa _ _ dc ac) ?_; rw [HSET.out]) | (refine wpList_store_row rfl 139 (.tmp 4) (.tmp 16) rfl w.heap.size _ rfl rfl 139 _ HR3.out sizeStat rfl zeroStat_one ?_))
    refine bodyPost_ret (v := .tuple #[.agg zeroStat, .int .i64 70]) ?_ rfl HFIN.out
    exact results_cell_row2 (p := 4) (q := 5) (ty := 139) rfl _ _ w.heap.size 139 _ (0, 0) _ _ rfl rfl HR4.out Tryz.underlying139 rfl sizeStat
  | some y =>
    have hny : n = y := by have := HN.out; rw [hg] at this; exact this.symm
    have HG := Lib.hid hg
    have hG0 : StK 6 W2 w.heap.size (statC n (kidsOf M s).length) (fun _ => false) W2.drew := by
      refine ⟨Chg.of_ext (Ext.drew _), ?_⟩
      simp only [Bool.false_eq_true, if_false]
      exact HR2.out
    have HG0 := Lib.hid hG0
    have hread : ∀ (d : Nat → Bool) (W : World), StK 6 W2 w.heap.size (statC n (kidsOf M s).length) d W → Ext w W ∧ W.heap[w1.heap.size]? = W2.heap[w1.heap.size]? := fun d W h =>
      ⟨HEW.out.trans' (h.1.below (fun k hk => by subst hk; exact Nat.le_refl _) (by have := HEW.out.size; omega)), h.1.same _ (Array.getElem?_eq_some_iff.1 HB2.out).1 (by omega)⟩
    have HRD := Lib.hid hread
    clear hg hG0 hread
    subst hny
    go_wp2_with (refine wpList_store_row rfl 44 (.tmp 6) (.tmp 12) rfl w1.heap.size _ rfl rfl 44 _ HNew.out sizeNd rfl (cells_node n da aa _ _ dc ac) ?_; rw [HSET.out])
    refine wp_region_P (by kernel_rfl) (region_state0 23 (StK 6 W2 w.heap.size (statC n (kidsOf M s).length)) HG0.out (RstP (ndC n (.slice da n.data.length dc) (.slice aa n.acl.length ac)) b s (kidsOf M s).length (statC n (kidsOf M s).length)) (by decide) rfl ?hnone ?duties ?rest)
    case hnone =>
      intro i o v h1 h2 h3
      match i, h1, h3 with
      | 6, _, h3 => exact h3
      | 0, h1, _ => cases h1; cases h2
      | 1, h1, _ => cases h1; cases h2
      | 2, h1, _ => cases h1; cases h2
      | 3, h1, _ => cases h1; cases h2
      | 4, h1, _ => cases h1; cases h2
      | 5, h1, _ => cases h1; cases h2
      | 7, h1, _ => cases h1; cases h2
      | i + 8, h1, _ => simp at h1
    case duties =>
      refine ⟨?_, ?_, ?_, ?_, ?_, ?_, ?_, ?_, trivial⟩
      · refine dutyS_ext (StK.ext (by decide)) fun d a w' hG hF hA => ?_
        have x1 := hF.slot 6 _ (by decide) rfl
        exact wp_value (ex_load_row rfl w1.heap.size x1 44 _ (0, 0) _ ((HRD.out d w' hG).2.trans HB2.out) Tryz.underlying44 rfl sizeNd) ⟨_, rfl, rfl, Ext.refl _⟩
      · refine dutyS_ext (StK.ext (by decide)) fun d a w' hG hF hA => ?_
        have x1 := hF.slot 0 _ (by decide) rfl
        exact wp_value (w' := w') (v := .pointer (some ⟨b, 0, none⟩)) (by simp only [execOp, x1]; simp [go_sem]) ⟨_, rfl, rfl, Ext.refl _⟩
      · refine dutyS_ext (StK.ext (by decide)) fun d a w' hG hF hA => ?_
        have x1 := hF.slot 1 _ (by decide) rfl
        exact wp_value (w' := w') (v := .string s) (by simp only [execOp, x1]; simp [go_sem]) ⟨_, rfl, rfl, Ext.refl _⟩
      · refine dutyS_ext (StK.ext (by decide)) fun d a w' hG hF hA => ?_
        have x1 : a.eval (.tmp 18) = _ := hA.slot 1 18 rfl rfl ⟨⟨1, .data⟩, by simp, rfl, rfl⟩
        have x2 : a.eval (.tmp 19) = _ := hA.slot 2 19 rfl rfl ⟨⟨2, .data⟩, by simp, rfl, rfl⟩
        refine wp_enter (ex_call rfl (enters_f Tryz.func93 (by kernel_rfl) rfl)) (by simp only [List.map_toArray, List.map_cons, List.map_nil, x1, x2]; exact rkids_any w' b M (HR.out.ext (HRD.out d w' hG).1) HM.out s hl) ?_
        rintro e w4 ⟨v, rfl, hv, h4⟩
        exact ⟨_, rfl, v, rfl, own_slice1 hv, h4⟩
      · refine dutyS_ext (StK.ext (by decide)) fun d a w' hG hF hA => ?_
        obtain ⟨ka, kc, x1⟩ : ∃ ka kc, a.eval (.tmp 20) = .slice ka (kidsOf M s).length kc := hA.slot 3 20 rfl rfl ⟨⟨3, .data⟩, by simp, rfl, rfl⟩
        exact wp_value (w' := w') (v := .int .i64 (kidsOf M s).length) (by simp only [execOp, resolve, invoke, builtin, Sem.run_bind, Sem.run_pure, Result.andThen_ok, List.map_toArray, List.map_cons, List.map_nil, x1]; simp [go_sem]) ⟨_, rfl, rfl, Ext.refl _⟩
      · refine dutyS_ext (StK.ext (by decide)) fun d a w' hG hF hA => ?_
        have x1 : a.eval (.tmp 17) = _ := hA.slot 0 17 rfl rfl ⟨⟨0, .data⟩, by simp, rfl, rfl⟩
        have x2 : a.eval (.tmp 21) = _ := hA.slot 4 21 rfl rfl ⟨⟨4, .data⟩, by simp, rfl, rfl⟩
        refine wp_enter (ex_call rfl (enters_f Tryz.func148 (by kernel_rfl) rfl)) (by simp only [List.map_toArray, List.map_cons, List.map_nil, x1, x2]; exact rstof_any n da aa dc ac (kidsOf M s).length w' HFit.out) ?_
        rintro e w4 ⟨rfl, h4⟩
        exact ⟨_, rfl, _, rfl, rfl, h4⟩
      · intro d a w' hdi _ _ hG hF hA
        have x1 := hF.slot 4 _ (by decide) rfl
        have x2 : a.eval (.tmp 22) = _ := hA.slot 5 22 rfl rfl ⟨⟨5, .data⟩, by simp, rfl, rfl⟩
        refine wp_skipped (ex_store_row 139 (.tmp 4) (.tmp 22) rfl w.heap.size _ x1 x2 139 _ hG.2 sizeStat (by split <;> rfl) (statC_one n _)) ⟨undef, rfl, rfl, ?_⟩
        refine ⟨hG.1.trans (Chg.set (S := (· = w.heap.size)) w.heap.size w' (statC n (kidsOf M s).length) rfl) (fun _ _ h => h), ?_⟩
        have e : ((fun k => d k || k == 6) 6) = true := by simp
        rw [if_pos e]
        exact setRow_heap w' w.heap.size _ _ _ _ hG.2
      · refine dutyS_ext (StK.ext (by decide)) fun d a w' hG hF hA => ?_
        exact wp_value (w' := w') (v := .int .i64 0) (by simp only [execOp]; simp [go_sem]) ⟨_, rfl, rfl, Ext.refl _⟩
    case rest =>
      intro us d W4 hdn hG4 hl8 hP
      have hl8' : us.length = 8 := by simpa using hl8
      have us8' := us8 us hl8'
      have q1 := us8'.choose_spec
      generalize us8'.choose = u0 at q1
      have q2 := q1.choose_spec
      generalize q1.choose = u1 at q2
      have q3 := q2.choose_spec
      generalize q2.choose = u2 at q3
      have q4 := q3.choose_spec
      generalize q3.choose = u3 at q4
      have q5 := q4.choose_spec
      generalize q4.choose = u4 at q5
      have q6 := q5.choose_spec
      generalize q5.choose = u5 at q6
      have q7 := q6.choose_spec
      generalize q6.choose = u6 at q7
      have q8 := q7.choose_spec
      generalize q7.choose = u7 at q8
      subst q8
      have e7 : u7 = .int .i64 0 := hP 7 u7 rfl
      subst e7
      have h9 := hdn 6 (by decide)
      obtain ⟨k1, k2⟩ := hG4
      rw [if_pos h9] at k2
      have hfin : StatOut M s w (.returned (.tuple #[.agg (statC n (kidsOf M s).length), .int .i64 0])) W4 :=
        ⟨by rw [HG.out]; rfl, HEW.out.trans' (k1.below (fun k hk => by subst hk; exact Nat.le_refl _) (by have := HEW.out.size; omega))⟩
      have HFIN := Lib.hid hfin
      have HK := Lib.hid k2
      clear hfin k1 k2 h9 hdn hP q1 q2 q3 q4 q5 q6 q7 us8' hl8 hl8'
      simp only [filled, List.zip_cons_cons, List.zip_nil_left, List.foldl_cons, List.foldl_nil, Act.put, List.setIfInBounds_toArray, List.set_cons_succ, List.set_cons_zero, Exit.inBlock, Exit.then]
      rename_i hK
      refine hK _ _ ?_
      clear hK
      go_wp2
      refine bodyPost_ret (v := .tuple #[.agg (statC n (kidsOf M s).length), .int .i64 0]) ?_ rfl HFIN.out
      exact results_cell_row2 (p := 4) (q := 5) (ty := 139) rfl _ _ w.heap.size 139 _ (0, 0) _ _ rfl rfl HK.out Tryz.underlying139 rfl sizeStat

theorem rchildren_any (w : World) (b : Nat) (M : List (Key × Nd)) (hR : RT w b (nds M)) (hM : MOk M) (s : ByteArray) (hs : s.size ≤ 9223372036854775800) (hl : M.length * 16 ≤ 140737488355328) :
    Calls Tryz.prog 82 #[.pointer (some ⟨b, 0, none⟩), .string s] w (ChildOut M s w) := by
  have C1 := Lib.hid (rget_any w b M hR hM s hs)
  have HR := Lib.hid hR
  have HM := Lib.hid hM
  clear hR hM
  go_enter Tryz.func82, Tryz.ntmps82
  go_wp2_with fail
  refine C1.out.mono ?_
  rintro e w1 ⟨v, rfl, hv, hE1⟩
  obtain ⟨da, dc, aa, ac, rfl, hD, hA⟩ := hv
  generalize hn : (mget M s.data.toList).getD zeroN = n at hD hA ⊢
  clear hD hA
  obtain ⟨W2, hW2⟩ : ∃ W2, W2 = w1.alloc (.cells (ndC n (.slice da n.data.length dc) (.slice aa n.acl.length ac)) 44) := ⟨_, rfl⟩
  have HSET := Lib.hid ((setRow_alloc w1 zeroNd (ndC n (.slice da n.data.length dc) (.slice aa n.acl.length ac)) 44).trans hW2.symm)
  have HNew := Lib.hid (heap_alloc_new w1 (.cells zeroNd 44))
  have hE2 : Ext w1 W2 := by rw [hW2]; exact Ext.alloc _ _
  have HEW := Lib.hid (hE1.trans hE2)
  unfold ndC at HSET
  unfold zeroNd at HSET HNew
  clear C1 hW2 hE1 hE2 hn
  unfold ndC
  cases hg : mget M s.data.toList with
  | none =>
    have HFIN : Hid (ChildOut M s w (.returned (.tuple #[.slice none 0 0, .int .i64 70])) W2) := ⟨_, by rw [hg]; rfl, HEW.out, by rw [hg]; rfl⟩
    clear hg
    go_wp2_with (refine wpList_store_row rfl 44 (.tmp 6) (.tmp 12) rfl w1.heap.size _ rfl rfl 44 _ HNew.out sizeNd rfl (cells_node n da aa _ _ dc ac) ?_; rw [HSET.out])
    go_ret2
    exact HFIN.out
  | some y =>
    have CK := Lib.hid (rkids_any W2 b M (HR.out.ext HEW.out) HM.out s hl)
    have HG := Lib.hid hg
    clear hg
    go_wp2_with (refine wpList_store_row rfl 44 (.tmp 6) (.tmp 12) rfl w1.heap.size _ rfl rfl 44 _ HNew.out sizeNd rfl (cells_node n da aa _ _ dc ac) ?_; rw [HSET.out])
    refine CK.out.mono ?_
    rintro e w3 ⟨v, rfl, hown, hE3⟩
    have HFIN : Hid (ChildOut M s w (.returned (.tuple #[v, .int .i64 0])) w3) := ⟨_, by rw [HG.out]; rfl, HEW.out.trans hE3, by
      rw [HG.out]
      simp only [Option.isSome_some, if_true]
      exact own_base hown HEW.out.size⟩
    clear CK hown hE3
    go_wp2
    go_ret2
    exact HFIN.out
end Go.Proofs.YthinpbdbhijbgaaGreatDoor
namespace Go.Proofs.YthinpbdbhijbgaaGreatDoor
open Go.RowKit Go.Sort
set_option maxHeartbeats 4000000
set_option maxRecDepth 100000

/-- A slice that shows these texts. -/
def StrsAt (B : Nat) (w : World) (a : Option Addr) (L : List ByteArray) : Prop := ∀ i s, L[i]? = some s → ∃ b off, a = some ⟨b, off, none⟩ ∧ b < B ∧ w.cell? ⟨b, off + i, none⟩ = some (.string s)
theorem StrsAt.ext {w w' : World} {a : Option Addr} {L : List ByteArray} (h : StrsAt w.heap.size w a L) (hE : Ext w w') : StrsAt w'.heap.size w' a L := fun i s hi => by
  obtain ⟨b, off, e, hb, hc⟩ := h i s hi
  exact ⟨b, off, e, Nat.lt_of_lt_of_le hb hE.size, (hE.cell (p := ⟨b, off + i, none⟩) hb).trans hc⟩
theorem StrsAt.of_own {w : World} {base : Nat} {v : Value} {ks : List Key} (h : w.ownsRow base 9 1 v ks.length (ks.map encStr)) : ∃ a c, v = .slice a ks.length c ∧ ks.length ≤ c ∧ StrsAt w.heap.size w a (ks.map fun k => ⟨k.toArray⟩) := by
  have h2 := h.2
  obtain ⟨a, c, rfl, hc⟩ := ownsRow_cells h
  refine ⟨a, c, rfl, ?_, fun i s hi => ?_⟩
  · rcases h2 with ⟨e, h0⟩ | ⟨g, cap, cur, e, _, _, hl, _⟩
    · omega
    · cases e; exact hl
  · rw [List.getElem?_map, Option.map_eq_some_iff] at hi
    obtain ⟨k, hk, rfl⟩ := hi
    obtain ⟨b, off, rfl, hb, hcc⟩ := hc i (encStr k) (by rw [List.getElem?_map, hk]; rfl)
    exact ⟨b, off, rfl, hb, hcc⟩

theorem texts_self (L : List ByteArray) (a b : Option Addr) (c d : Nat) (w : World) (hA : StrsAt w.heap.size w a L) (hB : StrsAt w.heap.size w b L) (hl : L.length ≤ 9223372036854775807) :
    Calls Tryz.prog 24 #[.slice a L.length c, .slice b L.length d] w fun e w' => e = .returned (.bool true) ∧ Ext w w' := by
  have HA := Lib.hid hA
  have HB := Lib.hid hB
  clear hA hB
  go_enter Tryz.func24, Tryz.ntmps24
  go_wp2
  go_loopw [5] (fun i wr => ∃ k : Nat, k ≤ L.length ∧ i = .int .i64 k ∧ Ext w wr) (fun i _ => L.length - (intOf i).toNat)
  case atStart => exact ⟨0, Nat.zero_le _, rfl, Ext.refl _⟩
  case round =>
    obtain ⟨k, hk, rfl, hE⟩ := hrel
    by_cases hlt : k < L.length
    · obtain ⟨b1, o1, rfl, hb1, hc1⟩ := HA.out k L[k] (List.getElem?_eq_getElem hlt)
      obtain ⟨b2, o2, rfl, hb2, hc2⟩ := HB.out k L[k] (List.getElem?_eq_getElem hlt)
      generalize L[k] = n at *
      have c1 := (hE.cell (p := ⟨b1, o1 + k, none⟩) hb1).trans hc1
      have c2 := (hE.cell (p := ⟨b2, o2 + k, none⟩) hb2).trans hc2
      have HE := Lib.hid hE
      clear hE hc1 hc2
      go_wp2
      go_quiet (fail)
      go_wp2
      go_roundw
      case rel => exact ⟨k + 1, by omega, by go_num, HE.out.trans' (below_drewN (Below.refl _ _) _)⟩
      case measure => simp [intOf]; omega
    · obtain rfl : k = L.length := by omega
      have HE := Lib.hid hE
      clear hE
      go_wp2
      go_ret
      exact ⟨rfl, HE.out⟩
end Go.Proofs.YthinpbdbhijbgaaGreatDoor
namespace Go.Proofs.YthinpbdbhijbgaaGreatDoor
open Go.RowKit Go.Sort
set_option maxHeartbeats 4000000
set_option maxRecDepth 100000

end Go.Proofs.YthinpbdbhijbgaaGreatDoor
namespace Go.Proofs.YthinpbdbhijbgaaGreatDoor
open Go.RowKit Go.Sort
set_option maxHeartbeats 2000000
set_option maxRecDepth 100000

/-- A node put into a new box. -/
theorem box_node {S : Nat → Prop} {w1 : World} {v : Value} {n : Nd} (hv : NdS S w1 v n) (hS : ∀ b, S b → b < w1.heap.size) :
    ∃ da dc aa ac W2, v = .agg (ndC n (.slice da n.data.length dc) (.slice aa n.acl.length ac)) ∧ (w1.alloc (.cells zeroNd 44)).setRow w1.heap.size (ndC n (.slice da n.data.length dc) (.slice aa n.acl.length ac)) = W2 ∧
      W2.heap[w1.heap.size]? = some (.cells (ndC n (.slice da n.data.length dc) (.slice aa n.acl.length ac)) 44 (0, 0)) ∧ Ext w1 W2 ∧ Cells W2.heap.size W2 da (n.data.map u8v) ∧ Cells W2.heap.size W2 aa (acCs n.acl) := by
  obtain ⟨da, dc, aa, ac, rfl, hD, hA⟩ := hv
  have hE : Ext w1 (w1.alloc (.cells (ndC n (.slice da n.data.length dc) (.slice aa n.acl.length ac)) 44)) := Ext.alloc _ _
  exact ⟨da, dc, aa, ac, _, rfl, setRow_alloc w1 zeroNd _ 44, heap_alloc_new w1 _, hE, (hD.cells hS).ext hE, (hA.cells hS).ext hE⟩
theorem OwnN.base {b b' : Nat} {L : List Nd} {v : Value} {w : World} (h : OwnN b L v w) (hb : b' ≤ b) : OwnN b' L v w := by
  obtain ⟨vs, h1, h2⟩ := h
  exact ⟨vs, ⟨h1.1, h1.2.imp id fun ⟨g, cap, cur, q1, q2, q3⟩ => ⟨g, cap, cur, q1, Nat.le_trans hb q2, q3⟩⟩, h2.imp (fun k hk => ⟨Nat.le_trans hb hk.1, hk.2⟩) fun _ _ _ _ h => h⟩
end Go.Proofs.YthinpbdbhijbgaaGreatDoor
namespace Go.Proofs.YthinpbdbhijbgaaGreatDoor
open Go.RowKit
set_option maxHeartbeats 2000000
set_option maxRecDepth 100000

theorem nodes_self (L : List Nd) (a b : Option Addr) (c d : Nat) (w : World) (hA : NdsAt w.heap.size w a L) (hB : NdsAt w.heap.size w b L) (hf : ∀ n ∈ L, Fit n) (hl : L.length ≤ 9223372036854775807) :
    Calls Tryz.prog 21 #[.slice a L.length c, .slice b L.length d] w fun e w' => e = .returned (.bool true) ∧ Ext w w' := by
  have HA := Lib.hid hA
  have HB := Lib.hid hB
  have HF := Lib.hid hf
  clear hA hB hf
  go_enter Tryz.func21, Tryz.ntmps21
  go_wp2
  go_loopw [5] (fun i wr => ∃ k : Nat, k ≤ L.length ∧ i = .int .i64 k ∧ Ext w wr) (fun i _ => L.length - (intOf i).toNat)
  case atStart => exact ⟨0, Nat.zero_le _, rfl, Ext.refl _⟩
  case round =>
    obtain ⟨k, hk, rfl, hE⟩ := hrel
    have HE := Lib.hid hE
    by_cases hlt : k < L.length
    · obtain ⟨b1, o1, v1, rfl, hb1, hv1, hc1⟩ := HA.out k L[k] (List.getElem?_eq_getElem hlt)
      obtain ⟨b2, o2, v2, rfl, hb2, hv2, hc2⟩ := HB.out k L[k] (List.getElem?_eq_getElem hlt)
      have hfit := HF.out L[k] (List.getElem_mem hlt)
      generalize L[k] = n at *
      obtain ⟨da, dc, aa, ac, rfl, hD, hAc⟩ := hv1
      obtain ⟨db, dd, ab, ad, rfl, hD2, hAc2⟩ := hv2
      have hr1 : ∀ W, Ext w W → ∀ j u, (ndC n (.slice da n.data.length dc) (.slice aa n.acl.length ac))[j]? = some u → W.cell? ((⟨b1, o1 + k * 17, none⟩ : Addr).add j) = some u := fun W h j u hj => by
        rw [addr_add, h.cell (p := ⟨b1, o1 + k * 17 + j, none⟩) hb1]; exact hc1 j u hj
      have hr2 : ∀ W, Ext w W → ∀ j u, (ndC n (.slice db n.data.length dd) (.slice ab n.acl.length ad))[j]? = some u → W.cell? ((⟨b2, o2 + k * 17, none⟩ : Addr).add j) = some u := fun W h j u hj => by
        rw [addr_add, h.cell (p := ⟨b2, o2 + k * 17 + j, none⟩) hb2]; exact hc2 j u hj
      have HR1 := Lib.hid hr1
      have HR2 := Lib.hid hr2
      have HD := Lib.hid hD
      have HAc := Lib.hid hAc
      have HD2 := Lib.hid hD2
      have HAc2 := Lib.hid hAc2
      clear hr1 hr2 hc1 hc2 hD hAc hD2 hAc2 hE
      go_wp2
      refine wp_region_P (by kernel_rfl) (region_vals 27 [.slice (some ⟨b1, o1, none⟩) L.length c, .int .i64 k, .pointer (some ⟨b1, o1 + k * 17, none⟩), .agg (ndC n (.slice da n.data.length dc) (.slice aa n.acl.length ac)), .slice (some ⟨b2, o2, none⟩) L.length d, .int .i64 k, .pointer (some ⟨b2, o2 + k * 17, none⟩), .agg (ndC n (.slice db n.data.length dd) (.slice ab n.acl.length ad)), .bool true, .bool false] rfl (by decide) rfl ?duties ?rest)
      case duties =>
        refine ⟨?_, ?_, ?_, ?_, ?_, ?_, ?_, ?_, ?_, ?_, trivial⟩
        · refine duty_free rfl fun a w' hE hF hA => ?_
          have x1 := hF.slot 0 _ (by decide) rfl
          exact wp_value (w' := w') (v := .slice (some ⟨b1, o1, none⟩) L.length c) (by simp only [execOp, x1]; simp [go_sem]) ⟨_, rfl, rfl, Ext.refl _⟩
        · refine duty_free rfl fun a w' hE hF hA => ?_
          have x1 := hF.slot 5 _ (by decide) rfl
          exact wp_value (w' := w') (v := .int .i64 k) (by simp only [execOp, x1]; simp [go_sem]) ⟨_, rfl, rfl, Ext.refl _⟩
        · refine duty_free rfl fun a w' hE hF hA => ?_
          have x1 := hA.val 0 17 rfl rfl ⟨⟨0, .data⟩, by simp, rfl, rfl⟩ rfl
          have x2 := hA.val 1 18 rfl rfl ⟨⟨1, .data⟩, by simp, rfl, rfl⟩ rfl
          exact wp_value (w' := w') (v := .pointer (some ⟨b1, o1 + k * 17, none⟩)) (by simp only [execOp, x1, x2]; simp [go_sem, hlt]) ⟨_, rfl, rfl, Ext.refl _⟩
        · refine duty_free rfl fun a w' hE hF hA => ?_
          have x1 := hA.val 2 19 rfl rfl ⟨⟨2, .data⟩, by simp, rfl, rfl⟩ rfl
          exact wp_value (ex_load_at rfl _ x1 (ndC n (.slice da n.data.length dc) (.slice aa n.acl.length ac)) (HR1.out w' (HE.out.trans hE)) Tryz.underlying44 rfl sizeNd) ⟨_, rfl, rfl, Ext.refl _⟩
        · refine duty_free rfl fun a w' hE hF hA => ?_
          have x1 := hF.slot 1 _ (by decide) rfl
          exact wp_value (w' := w') (v := .slice (some ⟨b2, o2, none⟩) L.length d) (by simp only [execOp, x1]; simp [go_sem]) ⟨_, rfl, rfl, Ext.refl _⟩
        · refine duty_free rfl fun a w' hE hF hA => ?_
          have x1 := hF.slot 5 _ (by decide) rfl
          exact wp_value (w' := w') (v := .int .i64 k) (by simp only [execOp, x1]; simp [go_sem]) ⟨_, rfl, rfl, Ext.refl _⟩
        · refine duty_free rfl fun a w' hE hF hA => ?_
          have x1 := hA.val 4 21 rfl rfl ⟨⟨4, .data⟩, by simp, rfl, rfl⟩ rfl
          have x2 := hA.val 5 22 rfl rfl ⟨⟨5, .data⟩, by simp, rfl, rfl⟩ rfl
          exact wp_value (w' := w') (v := .pointer (some ⟨b2, o2 + k * 17, none⟩)) (by simp only [execOp, x1, x2]; simp [go_sem, hlt]) ⟨_, rfl, rfl, Ext.refl _⟩
        · refine duty_free rfl fun a w' hE hF hA => ?_
          have x1 := hA.val 6 23 rfl rfl ⟨⟨6, .data⟩, by simp, rfl, rfl⟩ rfl
          exact wp_value (ex_load_at rfl _ x1 (ndC n (.slice db n.data.length dd) (.slice ab n.acl.length ad)) (HR2.out w' (HE.out.trans hE)) Tryz.underlying44 rfl sizeNd) ⟨_, rfl, rfl, Ext.refl _⟩
        · refine duty_free rfl fun a w' hE hF hA => ?_
          have x1 := hA.val 3 20 rfl rfl ⟨⟨3, .data⟩, by simp, rfl, rfl⟩ rfl
          have x2 := hA.val 7 24 rfl rfl ⟨⟨7, .data⟩, by simp, rfl, rfl⟩ rfl
          have hEE := HE.out.trans hE
          refine wp_enter (ex_call rfl (enters_f Tryz.func55 (by kernel_rfl) rfl)) (by simp only [List.map_toArray, List.map_cons, List.map_nil, x1, x2]; exact rsame_self n da aa db ab dc ac dd ad w' hfit (HD.out.ext hEE) (HAc.out.ext hEE) (HD2.out.ext hEE) (HAc2.out.ext hEE)) ?_
          rintro e w4 ⟨rfl, hb⟩
          exact ⟨_, rfl, _, rfl, rfl, hb⟩
        · refine duty_free rfl fun a w' hE hF hA => ?_
          have x1 := hA.val 8 25 rfl rfl ⟨⟨8, .data⟩, by simp, rfl, rfl⟩ rfl
          exact wp_value (w' := w') (v := .bool false) (by simp only [execOp, x1]; simp [go_sem]) ⟨_, rfl, rfl, Ext.refl _⟩
      case rest =>
        intro W8 hE8
        have HE8 := Lib.hid (HE.out.trans hE8)
        clear hE8 HR1 HR2
        simp only [filled, List.zip_cons_cons, List.zip_nil_left, List.foldl_cons, List.foldl_nil, Act.put, List.setIfInBounds_toArray, List.set_cons_succ, List.set_cons_zero, Exit.then]
        rename_i hK
        refine hK _ _ ?_
        clear hK
        go_wp2
        go_roundw
        case rel => exact ⟨k + 1, by omega, by go_num, HE8.out⟩
        case measure => simp [intOf]; omega
    · obtain rfl : k = L.length := by omega
      clear hE
      go_wp2
      go_ret
      exact ⟨rfl, HE.out⟩
end Go.Proofs.YthinpbdbhijbgaaGreatDoor
namespace Go.Proofs.YthinpbdbhijbgaaGreatDoor
open Go.RowKit
set_option maxHeartbeats 2000000
set_option maxRecDepth 100000

theorem bequal_self (a b : Option Addr) (c d : Nat) (xs : List UInt8) (w : World) (hx : Cells w.heap.size w a (xs.map u8v)) (hy : Cells w.heap.size w b (xs.map u8v)) :
    Calls Tryz.prog 154 #[.slice a xs.length c, .slice b xs.length d] w fun e w' => e = .returned (.bool true) ∧ w = w' := by
  have hv1 := conv_string c hx
  have hv2 := conv_string d hy
  clear hx hy
  go_enter Tryz.func154, Tryz.ntmps154
  go_wp2
  go_ret
  exact ⟨rfl, rfl⟩

theorem aequal_self (a b : Option Addr) (c d : Nat) (xs : List Ac) (w : World) (hx : Cells w.heap.size w a (acCs xs)) (hy : Cells w.heap.size w b (acCs xs)) (hm : xs.length ≤ 9223372036854775800) :
    Calls Tryz.prog 155 #[.slice a xs.length c, .slice b xs.length d] w fun e w' => e = .returned (.bool true) ∧ Below w.heap.size w w' := by
  have hg := guard_ac
  have hnq := neq_ac
  go_enter Tryz.func155, Tryz.ntmps155
  go_wp2
  go_loopw [13] (fun i wr => ∃ (k n : Nat), k ≤ xs.length ∧ i = .int .i64 k ∧ wr = w.drewN n) (fun i _ => xs.length - (intOf i).toNat)
  case atStart => exact ⟨0, 0, Nat.zero_le _, rfl, rfl⟩
  case round =>
    obtain ⟨k, n, hk, rfl, rfl⟩ := hrel
    by_cases hlt : k < xs.length
    · obtain ⟨b1, o1, rfl, hb1, c0, c1, c2⟩ := acCells hx k hlt
      obtain ⟨b2, o2, rfl, hb2, d0, d1, d2⟩ := acCells hy k hlt
      have hk1 : (k : Int) < xs.length := by omega
      have hk0 : (0 : Int) ≤ k := by omega
      have he := eqAc_self xs[k]
      clear hx hy
      go_wp2
      go_quiet (fail)
      go_wp2
      go_roundw
      case rel => exact ⟨k + 1, _, by omega, by go_num, rfl⟩
      case measure => simp [intOf]; omega
    · obtain rfl : k = xs.length := by omega
      clear hx hy
      go_wp2
      go_ret
      exact ⟨rfl, below_drewN (Below.refl _ _) _⟩

/-- A node and its like are the same. -/
theorem ssame_self (n : Nd) (da aa db ab : Option Addr) (dc ac dd ad : Nat) (w : World) (hf : Fit n) (hD : Cells w.heap.size w da (n.data.map u8v)) (hA : Cells w.heap.size w aa (acCs n.acl)) (hD' : Cells w.heap.size w db (n.data.map u8v)) (hA' : Cells w.heap.size w ab (acCs n.acl)) :
    Calls Tryz.prog 98 #[.agg (ndC n (.slice da n.data.length dc) (.slice aa n.acl.length ac)), .agg (ndC n (.slice db n.data.length dd) (.slice ab n.acl.length ad))] w fun e w' => e = .returned (.bool true) ∧ Below w.heap.size w w' := by
  have hfa := hf.acl
  obtain ⟨W2, hW2⟩ : ∃ W2, W2 = (w.alloc (.cells (ndC n (.slice da n.data.length dc) (.slice aa n.acl.length ac)) 44)).alloc (.cells (ndC n (.slice db n.data.length dd) (.slice ab n.acl.length ad)) 44) := ⟨_, rfl⟩
  have hs2 : W2.heap.size = w.heap.size + 1 + 1 := by rw [hW2]; simp
  have hb2 : Below w.heap.size w W2 := by rw [hW2]; exact ((Below.refl _ _).alloc (Nat.le_refl _) _).alloc (by simp) _
  have hx : Box W2 w.heap.size (ndC n (.slice da n.data.length dc) (.slice aa n.acl.length ac)) := fun j => by rw [hW2]; exact cell_of_row _ _ _ _ _ _ (heap_alloc2_old w _ _)
  have hy : Box W2 (w.heap.size + 1) (ndC n (.slice db n.data.length dd) (.slice ab n.acl.length ad)) := fun j => by rw [hW2]; exact cell_of_row _ _ _ _ _ _ (heap_alloc2_new w _ _)
  have CB := bequal_self da db dc dd n.data W2 ((hD.below hb2).mono (by omega)) ((hD'.below hb2).mono (by omega))
  have CA := aequal_self aa ab ac ad n.acl W2 ((hA.below hb2).mono (by omega)) ((hA'.below hb2).mono (by omega)) (by omega)
  have hgq := guard_q
  have hnq := eql_q
  have hqq : ∀ h a b, eqQ h a b h a b = true := fun h a b => by simp [eqQ]
  rw [hW2] at CA CB
  have CA := Lib.hid CA
  have CB := Lib.hid CB
  have HW2 := Lib.hid hW2
  unfold ndC at hx hy CA CB HW2 ⊢
  clear hW2 hD hA hD' hA'
  unfold Box at hx hy
  have hx0 := hx
  have hy0 := hy
  rw [HW2.out] at hx hy
  go_enter Tryz.func98, Tryz.ntmps98
  go_wp2_with fail
  refine CB.out.mono ?_
  rintro e w3 ⟨rfl, rfl⟩
  clear CB
  go_wp2_with fail
  refine CA.out.mono ?_
  rintro e w3 ⟨rfl, hb3⟩
  rw [← HW2.out] at hb3
  have hx3 := Box.below (fun j => hx0 j) hb3 (by omega)
  have hy3 := Box.below (fun j => hy0 j) hb3 (by omega)
  have hbb := hb2.trans (hb3.mono (by omega))
  unfold Box at hx3 hy3
  clear CA hx hy hx0 hy0 hb3 hb2 HW2
  go_wp2
  go_ret
  exact ⟨rfl, hbb⟩
end Go.Proofs.YthinpbdbhijbgaaGreatDoor
namespace Go.Proofs.YthinpbdbhijbgaaGreatDoor
open Go.RowKit
set_option maxHeartbeats 4000000
set_option maxRecDepth 100000

theorem wpList_load_row_g {P : Program} {ops : Array Oper} {rest : List Oper} {o : Oper} {a : Act} {Q : Exit → Act → World → Prop} {w : World} (hw : Region.wanted o (yielded ops a.tmps) = true) (ty : TypeId) (x : Operand) (ho : o.op = .load ty x) (g : Nat) (hx : a.eval x = .pointer (some ⟨g, 0, none⟩)) (t : TypeId) (cs : Array Value) (fr : Nat × Nat) (d : TypeDesc) (hg : w.heap[g]? = some (.cells cs t fr))
    (hu : P.underlying ty = some d) (hd : (match d with | .struct _ | .array _ _ => true | _ => false) = true) (hi : (P.info? ty).map (·.size) = some cs.size)
    (hK : wpList P ops Q rest (a.put o.dst (.agg cs)) w) : wpList P ops Q (o :: rest) a w := by
  rw [wpList, if_pos hw]
  exact .inl (wp_value (ex_load_row ho g hx t cs fr d hg hu hd hi) hK)

theorem grown_ext {a b : World} (h : Ext a b) (row : Option Nat) : a.grownBy b row := ⟨h.os, h.tape, h.output, h.size, fun k hk _ => h.block k hk⟩

end Go.Proofs.YthinpbdbhijbgaaGreatDoor
namespace Go.Proofs.YthinpbdbhijbgaaGreatDoor
open Go.RowKit Go.Sort
set_option maxHeartbeats 8000000
set_option maxRecDepth 100000

theorem neq_stat (w : World) (s0 s1 s2 s3 s4 s5 s6 s7 s8 s9 s10 : Int) : (binOp .neq 139 (.agg #[.int .i64 s0, .int .i64 s1, .int .i64 s2, .int .i64 s3, .int .i32 s4, .int .i32 s5, .int .i32 s6, .int .i64 s7, .int .i32 s8, .int .i32 s9, .int .i64 s10]) (.agg #[.int .i64 s0, .int .i64 s1, .int .i64 s2, .int .i64 s3, .int .i32 s4, .int .i32 s5, .int .i32 s6, .int .i64 s7, .int .i32 s8, .int .i32 s9, .int .i64 s10])).run Tryz.prog w = .ok (.bool false) w := by
  rw [run_neq_struct]
  have : (Op.equalIn (9998 + 2) 139 (.agg #[.int .i64 s0, .int .i64 s1, .int .i64 s2, .int .i64 s3, .int .i32 s4, .int .i32 s5, .int .i32 s6, .int .i64 s7, .int .i32 s8, .int .i32 s9, .int .i64 s10]) (.agg #[.int .i64 s0, .int .i64 s1, .int .i64 s2, .int .i64 s3, .int .i32 s4, .int .i32 s5, .int .i32 s6, .int .i64 s7, .int .i32 s8, .int .i32 s9, .int .i64 s10])).run Tryz.prog w = .ok true w := by
    rw [eq_agg w (9998 + 1) _ _ _ _ Tryz.underlying139 (by kernel_rfl)]
    simp [Op.eqFields, part, go_sem]
  rw [this]; rfl

theorem stat_shape (M : List (Key × Nd)) (s : ByteArray) : ∃ s0 s1 s2 s3 s4 s5 s6 s7 s8 s9 s10 : Int, ∀ w e w', StatOut M s w e w' → e = .returned (.tuple #[.agg #[.int .i64 s0, .int .i64 s1, .int .i64 s2, .int .i64 s3, .int .i32 s4, .int .i32 s5, .int .i32 s6, .int .i64 s7, .int .i32 s8, .int .i32 s9, .int .i64 s10], .int .i64 (if (mget M s.data.toList).isSome = true then 0 else 70)]) ∧ Ext w w' := by
  unfold StatOut
  cases mget M s.data.toList with
  | some n => exact ⟨_, _, _, _, _, _, _, _, _, _, _, fun w e w' h => ⟨h.1.trans rfl, h.2⟩⟩
  | none => exact ⟨_, _, _, _, _, _, _, _, _, _, _, fun w e w' h => ⟨h.1.trans rfl, h.2⟩⟩

/-- The children's names of a path that is there. -/
def kidL (M : List (Key × Nd)) (s : ByteArray) : List Key := if (mget M s.data.toList).isSome = true then (kidsOf M s).map (·.1) else []
theorem child_strs {M : List (Key × Nd)} {s : ByteArray} {w w' : World} {e : Ending} (h : ChildOut M s w e w') : ∃ a c, e = .returned (.tuple #[.slice a (kidL M s).length c, .int .i64 (if (mget M s.data.toList).isSome = true then 0 else 70)]) ∧ StrsAt w'.heap.size w' a ((kidL M s).map fun k => ⟨k.toArray⟩) ∧ Ext w w' := by
  obtain ⟨v, rfl, hE, hv⟩ := h
  unfold kidL
  by_cases hg : (mget M s.data.toList).isSome = true
  · simp only [if_pos hg] at hv ⊢
    have hv' : w'.ownsRow w.heap.size 9 1 v ((kidsOf M s).map (·.1)).length (((kidsOf M s).map (·.1)).map encStr) := by
      rw [List.length_map, List.map_map]; exact hv
    obtain ⟨a, c, rfl, _, hs⟩ := StrsAt.of_own hv'
    exact ⟨a, c, rfl, hs, hE⟩
  · simp only [if_neg hg] at hv ⊢
    subst hv
    exact ⟨none, 0, rfl, fun i x hx => by simp at hx, hE⟩

theorem weigh_shape (M : List (Key × Nd)) (s : ByteArray) : ∃ x y z : Int, (if (mget M s.data.toList).isSome = true then Value.tuple #[.int .i64 (undK M s).length, .int .i64 (bytesK M (undK M s)), .int .i64 0] else .tuple #[.int .i64 0, .int .i64 0, .int .i64 70]) = .tuple #[.int .i64 x, .int .i64 y, .int .i64 z] := by
  split
  · exact ⟨_, _, _, rfl⟩
  · exact ⟨_, _, _, rfl⟩

theorem UndL_le (M : List (Key × Nd)) (s : ByteArray) : (UndL M s).length ≤ M.length := by
  unfold UndL
  split
  · exact undK_length_le M s
  · exact Nat.zero_le _
theorem UndL_key {M : List (Key × Nd)} (hM : MOk M) (s : ByteArray) : ∀ k ∈ UndL M s, k.length ≤ maxLen := fun k hk => by
  unfold UndL at hk
  split at hk
  · unfold undK at hk
    obtain ⟨y, hy, rfl⟩ := List.mem_map.1 hk
    have hyM := (List.mem_filter.1 hy).1
    have h1 := hM.key y hyM
    have h2 := (vpath_facts (right_vpath (hM.right y hyM))).2.1
    rw [h1]; unfold keyN maxLen; rw [size_list]; omega
  · simp at hk
theorem nodesOf_fit {M : List (Key × Nd)} (hM : MOk M) (ks : List Key) : ∀ n ∈ nodesOf M ks, Fit n := fun n hn => by
  unfold nodesOf at hn
  obtain ⟨k, _, rfl⟩ := List.mem_map.1 hn
  exact hM.fit k
theorem after_fit {M : List (Key × Nd)} (hM : MOk M) (s : ByteArray) : Fit (((afterN M s).map (·.2)).getD zeroN) := by
  cases h : afterN M s with
  | none => exact zeroN_fit
  | some x => exact (right_fit (hM.right x (List.mem_of_find?_eq_some h))).1

theorem rows_nds {L : List Nd} {base : Nat} {v : Value} {w : World} (h : OwnN base L v w) : ∃ a c, v = .slice a L.length c ∧ NdsAt w.heap.size w a L := by
  obtain ⟨a, c, vs, rfl, _, _, hr, _⟩ := h.rows
  exact ⟨a, c, rfl, hr.nds fun k hk => hk.2⟩

theorem like_any (S : Nat → Prop) (w : World) (bt br : Nat) (M : List (Key × Nd)) (N : Nat) (hT : TreeAt S w bt M N) (hR : RT w br (nds M)) (hc : Clo M) (s : ByteArray) (hs64 : s.size ≤ 9223372036854775800) (hl : M.length * 168 ≤ 140737488355328) :
    Calls Tryz.prog 20 #[.pointer (some ⟨bt, 0, none⟩), .pointer (some ⟨br, 0, none⟩), .string s] w fun e w' => e = .returned (.bool true) ∧ Ext w w' := by
  have hM := hT.ok
  have hs : s.size ≤ maxLen := by unfold maxLen; omega
  have hfit := hM.fit s.data.toList
  have hafit := after_fit hM s
  have C1 := Lib.hid (tget_any S w bt M N hT s hs)
  have C2 := Lib.hid fun W (h : Ext w W) => rget_any W br M (hR.ext h) hM s hs64
  have C3 := Lib.hid fun W (h : Ext w W) => tstat_any S W bt M N (hT.ext h) s hs
  have C4 := Lib.hid fun W (h : Ext w W) => rstat_any W br M (hR.ext h) hM s hs64 (by omega)
  have C5 := Lib.hid fun W (h : Ext w W) => children_any S W bt M N (hT.ext h) s hs (by omega)
  have C6 := Lib.hid fun W (h : Ext w W) => rchildren_any W br M (hR.ext h) hM s hs64 (by omega)
  have C7 := Lib.hid fun W (h : Ext w W) => after_any S W bt M N (hT.ext h) s
  have C8 := Lib.hid fun W (h : Ext w W) => rafter_any W br M (hR.ext h) hM s hs64
  have C9 := Lib.hid fun W (h : Ext w W) => weigh_any S W bt M N (hT.ext h) hc s hs hl
  have C10 := Lib.hid fun W (h : Ext w W) => rweigh_any W br M (hR.ext h) hM s hs64 hl
  have C11 := Lib.hid fun W (h : Ext w W) => rbelow_any W br M (hR.ext h) hM s hs64 hl
  have C12 := Lib.hid fun W (h : Ext w W) => lbelow_any S W bt M N (hT.ext h) hc s hs (nodesOf M (UndL M s)).length (by unfold nodesOf maxLen; rw [List.length_map]; have := UndL_le M s; omega) hl (UndL_key hM s) (UndL_le M s)
  have hfitN := nodesOf_fit hM (UndL M s)
  have hlenN : (nodesOf M (UndL M s)).length ≤ M.length := by unfold nodesOf; rw [List.length_map]; exact UndL_le M s
  have hlenK : (kidL M s).length ≤ M.length := by
    unfold kidL
    split
    · rw [List.length_map]; exact kids_length M s
    · exact Nat.zero_le _
  have HFN := Lib.hid hfitN
  have HFIT := Lib.hid hfit
  have HAFIT := Lib.hid hafit
  clear hT hR hc hM hfit hafit hfitN
  go_enter Tryz.func20, Tryz.ntmps20
  go_wp2_with fail
  refine C1.out.mono ?_
  rintro e w1 ⟨v1, rfl, hv1, hE1⟩
  obtain ⟨d1, e1, a1, f1, X1, rfl, hset1, hbx1, hEX1, hD1, hA1⟩ := box_node hv1 fun b hb => hb.2
  have HSET1 := Lib.hid hset1
  have HNEW1 := Lib.hid (heap_alloc_new w1 (.cells zeroNd 44))
  have hEa := hE1.trans hEX1
  have CC2 := Lib.hid (C2.out X1 hEa)
  have HBX1 := Lib.hid hbx1
  have HD1 := Lib.hid hD1
  have HA1 := Lib.hid hA1
  have HEa := Lib.hid hEa
  generalize hnn : (mget M s.data.toList).getD zeroN = n at *
  generalize hbb : (mget M s.data.toList).isSome = th at *
  clear C1 C2 hv1 hE1 hset1 hbx1 hEX1 hD1 hA1 hEa
  unfold ndC at HSET1
  unfold zeroNd at HSET1 HNEW1
  unfold ndC
  go_wp2_with (refine wpList_store_row rfl 44 (.tmp 7) (.tmp 32) rfl w1.heap.size _ rfl rfl 44 _ HNEW1.out sizeNd rfl (cells_node n d1 a1 _ _ e1 f1) ?_; rw [HSET1.out])
  refine CC2.out.mono ?_
  rintro e w2 ⟨v2, rfl, hv2, hE2⟩
  rw [hnn] at hv2
  rw [hbb]
  obtain ⟨d2, e2, a2, f2, X2, rfl, hset2, hbx2, hEX2, hD2, hA2⟩ := box_node hv2 fun b hb => hb.2
  have HSET2 := Lib.hid hset2
  have HNEW2 := Lib.hid (heap_alloc_new w2 (.cells zeroNd 44))
  have hEa := hE2.trans hEX2
  have hb12 := (hEa.block w1.heap.size (Array.getElem?_eq_some_iff.1 HBX1.out).1).trans HBX1.out
  have CS := Lib.hid (rsame_self n d1 a1 d2 a2 e1 f1 e2 f2 X2 HFIT.out (HD1.out.ext hEa) (HA1.out.ext hEa) hD2 hA2)
  have HB1 := Lib.hid hb12
  have HB2 := Lib.hid hbx2
  have HE2 := Lib.hid (HEa.out.trans hEa)
  have hth : (th != th) = false := by cases th <;> rfl
  clear CC2 hv2 hE2 hset2 hbx2 hEX2 hD2 hA2 hEa hb12 HD1 HA1 HBX1 HSET1 HNEW1
  unfold ndC at HSET2 HB1 HB2
  unfold zeroNd at HSET2 HNEW2
  unfold ndC
  go_wp2_with (first | (refine wpList_store_row rfl 44 (.tmp 9) (.tmp 38) rfl w2.heap.size _ rfl rfl 44 _ HNEW2.out sizeNd rfl (cells_node n d2 a2 _ _ e2 f2) ?_; rw [HSET2.out]) | (refine wpList_load_row_g rfl 44 (.tmp 7) rfl w1.heap.size rfl 44 _ (0, 0) _ HB1.out Tryz.underlying44 rfl sizeNd ?_) | (refine wpList_load_row_g rfl 44 (.tmp 9) rfl w2.heap.size rfl 44 _ (0, 0) _ HB2.out Tryz.underlying44 rfl sizeNd ?_))
  refine CS.out.mono ?_
  rintro e w3 ⟨rfl, hE3⟩
  have HE3 := Lib.hid (HE2.out.trans hE3)
  have CC3 := Lib.hid (C3.out w3 HE3.out)
  clear CS hE3 HB1 HB2 HSET2 HNEW2 HE2
  go_wp2_with fail
  refine CC3.out.mono ?_
  obtain ⟨s0, s1, s2, s3, s4, s5, s6, s7, s8, s9, s10, hst⟩ := stat_shape M s
  rw [hbb] at hst
  have hnq := neq_stat (s0 := s0) (s1 := s1) (s2 := s2) (s3 := s3) (s4 := s4) (s5 := s5) (s6 := s6) (s7 := s7) (s8 := s8) (s9 := s9) (s10 := s10)
  generalize hee : (if th = true then (0 : Int) else 70) = er
  have her : (er != er) = false := by simp
  have her2 : (er == er) = true := by simp
  rw [hee] at hst
  have HST := Lib.hid hst
  intro e w4 hout
  obtain ⟨rfl, hE4⟩ := HST.out _ _ _ hout
  obtain ⟨st, hstd⟩ : ∃ st, st = #[.int .i64 s0, .int .i64 s1, .int .i64 s2, .int .i64 s3, .int .i32 s4, .int .i32 s5, .int .i32 s6, .int .i64 s7, .int .i32 s8, .int .i32 s9, Value.int .i64 s10] := ⟨_, rfl⟩
  obtain ⟨X4, hX4⟩ : ∃ X4, X4 = w4.alloc (.cells st 139) := ⟨_, rfl⟩
  have HSET4 := Lib.hid ((setRow_alloc w4 zeroStat st 139).trans hX4.symm)
  have HNEW4 := Lib.hid (heap_alloc_new w4 (.cells zeroStat 139))
  have hEX4 : Ext w4 X4 := by rw [hX4]; exact Ext.alloc _ _
  have hb4 : X4.heap[w4.heap.size]? = some (.cells st 139 (0, 0)) := by rw [hX4]; exact heap_alloc_new w4 _
  have hso : st.all (·.oneCell') = true := by rw [hstd]; simp [Value.oneCell']
  have HSO := Lib.hid hso
  have hEa := HE3.out.trans (Ext.trans hE4 hEX4)
  have CC4 := Lib.hid (C4.out X4 hEa)
  have HE4 := Lib.hid hEa
  have HB4 := Lib.hid hb4
  rw [hstd] at HSET4
  unfold zeroStat at HSET4 HNEW4
  rw [hstd] at HSO HB4
  clear CC3 hE4 hEX4 hX4 hb4 hso hEa hst hout
  go_wp2_with (refine wpList_store_row rfl 139 (.tmp 11) (.tmp 53) rfl w4.heap.size _ rfl rfl 139 _ HNEW4.out sizeStat rfl HSO.out ?_; rw [HSET4.out])
  refine CC4.out.mono ?_
  intro e w5 hout
  obtain ⟨rfl, hE5⟩ := HST.out _ _ _ hout
  clear hout
  obtain ⟨X5, hX5⟩ : ∃ X5, X5 = w5.alloc (.cells st 139) := ⟨_, rfl⟩
  have HSET5 := Lib.hid ((setRow_alloc w5 zeroStat st 139).trans hX5.symm)
  have HNEW5 := Lib.hid (heap_alloc_new w5 (.cells zeroStat 139))
  have hEX5 : Ext w5 X5 := by rw [hX5]; exact Ext.alloc _ _
  have hb5 : X5.heap[w5.heap.size]? = some (.cells st 139 (0, 0)) := by rw [hX5]; exact heap_alloc_new w5 _
  have hE45 : Ext X4 X5 := Ext.trans hE5 hEX5
  have hb45 := (hE45.block w4.heap.size (Array.getElem?_eq_some_iff.1 HB4.out).1).trans HB4.out
  have hEa := HE4.out.trans hE45
  have CC5 := Lib.hid (C5.out X5 hEa)
  have HE5 := Lib.hid hEa
  have HB5 := Lib.hid hb5
  have HB45 := Lib.hid hb45
  rw [hstd] at HSET5
  unfold zeroStat at HSET5 HNEW5
  rw [hstd] at HB5
  clear CC4 hE5 hEX5 hX5 hb5 hEa hb45 hE45 HB4 HSET4 HNEW4
  go_wp2_with (refine wpList_store_row rfl 139 (.tmp 13) (.tmp 59) rfl w5.heap.size _ rfl rfl 139 _ HNEW5.out sizeStat rfl HSO.out ?_; rw [HSET5.out])
  refine CC5.out.mono ?_
  intro e w6 hout
  obtain ⟨ka, kc, rfl, hks, hE6⟩ := child_strs hout
  rw [hbb, hee]
  have hEa := HE5.out.trans hE6
  have hb6 := (hE6.block w4.heap.size (Array.getElem?_eq_some_iff.1 HB45.out).1).trans HB45.out
  have hb7 := (hE6.block w5.heap.size (Array.getElem?_eq_some_iff.1 HB5.out).1).trans HB5.out
  have CC6 := Lib.hid (C6.out w6 hEa)
  have HE6 := Lib.hid hEa
  have HKS := Lib.hid hks
  have HB46 := Lib.hid hb6
  have HB56 := Lib.hid hb7
  clear hout CC5 hks hE6 hEa hb6 hb7 HB45 HB5 HSET5 HNEW5
  go_wp2_with fail
  refine CC6.out.mono ?_
  intro e w7 hout
  obtain ⟨kb, kd, rfl, hks, hE7⟩ := child_strs hout
  rw [hbb, hee]
  have hEa := HE6.out.trans hE7
  have hb6 := (hE7.block w4.heap.size (Array.getElem?_eq_some_iff.1 HB46.out).1).trans HB46.out
  have hb7 := (hE7.block w5.heap.size (Array.getElem?_eq_some_iff.1 HB56.out).1).trans HB56.out
  have CT := texts_self _ ka kb kc kd w7 (HKS.out.ext hE7) hks (by rw [List.length_map]; omega)
  rw [List.length_map] at CT
  have CT := Lib.hid CT
  have HE7 := Lib.hid hEa
  have HB47 := Lib.hid hb6
  have HB57 := Lib.hid hb7
  clear hout CC6 hks hE7 hEa hb6 hb7 HB46 HB56 HKS
  go_wp2_with (first | (refine wpList_load_row_g rfl 139 (.tmp 11) rfl w4.heap.size rfl 139 _ (0, 0) _ HB47.out Tryz.underlying139 rfl sizeStat ?_) | (refine wpList_load_row_g rfl 139 (.tmp 13) rfl w5.heap.size rfl 139 _ (0, 0) _ HB57.out Tryz.underlying139 rfl sizeStat ?_))
  refine CT.out.mono ?_
  rintro e w8 ⟨rfl, hE8⟩
  have HE8 := Lib.hid (HE7.out.trans hE8)
  have CC7 := Lib.hid (C7.out w8 HE8.out)
  clear CT hE8 HB47 HB57 hnq
  go_wp2_with fail
  refine CC7.out.mono ?_
  rintro e w9 ⟨v9, rfl, hv9, hE9⟩
  generalize haa : ((afterN M s).map (·.2)).getD zeroN = an at *
  generalize hab : (afterN M s).isSome = ab at *
  obtain ⟨d9, e9, a9, f9, X9, rfl, hset9, hbx9, hEX9, hD9, hA9⟩ := box_node hv9 fun b hb => hb.2
  have HSET9 := Lib.hid hset9
  have HNEW9 := Lib.hid (heap_alloc_new w9 (.cells zeroNd 44))
  have hEa := HE8.out.trans (Ext.trans hE9 hEX9)
  have CC8 := Lib.hid (C8.out X9 hEa)
  have HBX9 := Lib.hid hbx9
  have HD9 := Lib.hid hD9
  have HA9 := Lib.hid hA9
  have HE9 := Lib.hid hEa
  clear CC7 hv9 hE9 hset9 hbx9 hEX9 hD9 hA9 hEa
  unfold ndC at HSET9
  unfold zeroNd at HSET9 HNEW9
  unfold ndC
  go_wp2_with (refine wpList_store_row rfl 44 (.tmp 19) (.tmp 96) rfl w9.heap.size _ rfl rfl 44 _ HNEW9.out sizeNd rfl (cells_node an d9 a9 _ _ e9 f9) ?_; rw [HSET9.out])
  refine CC8.out.mono ?_
  rintro e w10 ⟨v10, rfl, hv10, hE10⟩
  rw [haa] at hv10
  rw [hab]
  obtain ⟨d10, e10, a10, f10, X10, rfl, hset10, hbx10, hEX10, hD10, hA10⟩ := box_node hv10 fun b hb => hb.2
  have HSET10 := Lib.hid hset10
  have HNEW10 := Lib.hid (heap_alloc_new w10 (.cells zeroNd 44))
  have hE910 := Ext.trans hE10 hEX10
  have hb910 := (hE910.block w9.heap.size (Array.getElem?_eq_some_iff.1 HBX9.out).1).trans HBX9.out
  have hEa := HE9.out.trans hE910
  have CS2 := Lib.hid fun W (h : Ext X10 W) => rsame_self an d9 a9 d10 a10 e9 f9 e10 f10 W HAFIT.out ((HD9.out.ext hE910).ext h) ((HA9.out.ext hE910).ext h) (hD10.ext h) (hA10.ext h)
  have CC9 := Lib.hid (C9.out X10 hEa)
  have HB9 := Lib.hid hb910
  have HB10 := Lib.hid hbx10
  have HE10 := Lib.hid hEa
  have hab2 : (ab == ab) = true := by cases ab <;> rfl
  clear CC8 hv10 hE10 hset10 hbx10 hEX10 hD10 hA10 hEa hb910 hE910 HD9 HA9 HBX9 HSET9 HNEW9
  unfold ndC at HSET10 HB9 HB10
  unfold zeroNd at HSET10 HNEW10
  unfold ndC
  go_wp2_with (refine wpList_store_row rfl 44 (.tmp 21) (.tmp 102) rfl w10.heap.size _ rfl rfl 44 _ HNEW10.out sizeNd rfl (cells_node an d10 a10 _ _ e10 f10) ?_; rw [HSET10.out])
  refine CC9.out.mono ?_
  unfold WeighOut
  obtain ⟨wx, wy, wz, hww⟩ := weigh_shape M s
  rw [hww]
  have HWW := Lib.hid hww
  have hx1 : (wx == wx) = true := by simp
  have hx2 : (wy == wy) = true := by simp
  have hx3 : (wz == wz) = true := by simp
  rintro e w11 ⟨rfl, hE11⟩
  have HE11 := Lib.hid (HE10.out.trans hE11)
  have HK11 := Lib.hid hE11
  have CC10 := Lib.hid (C10.out w11 HE11.out)
  clear CC9 hE11 hww HSET10 HNEW10
  go_wp2_with fail
  refine CC10.out.mono ?_
  unfold WeighOut
  rw [HWW.out]
  rintro e w12 ⟨rfl, hE12⟩
  have HE12 := Lib.hid (HE11.out.trans hE12)
  have HK12 := Lib.hid (Ext.trans HK11.out hE12)
  have CC11 := Lib.hid (C11.out w12 HE12.out)
  clear CC10 hE12 HWW
  go_wp2_with fail
  refine CC11.out.mono ?_
  rintro e w13 ⟨v13, rfl, hown13, hE13⟩
  obtain ⟨ra, rc, rfl, hra⟩ := rows_nds hown13
  have hE13 : Ext w12 w13 := hE13
  have hK13 := Ext.trans HK12.out hE13
  have CS3 := Lib.hid (CS2.out w13 hK13)
  have HB9b := Lib.hid ((hK13.block w9.heap.size (Array.getElem?_eq_some_iff.1 HB9.out).1).trans HB9.out)
  have HB10b := Lib.hid ((hK13.block w10.heap.size (Array.getElem?_eq_some_iff.1 HB10.out).1).trans HB10.out)
  have HE13 := Lib.hid (HE12.out.trans hE13)
  have HRA := Lib.hid hra
  clear CC11 CS2 hown13 hE13 hK13 hra HB9 HB10 HK12 HK11
  go_wp2_with (first | (refine wpList_load_row_g rfl 44 (.tmp 19) rfl w9.heap.size rfl 44 _ (0, 0) _ HB9b.out Tryz.underlying44 rfl sizeNd ?_) | (refine wpList_load_row_g rfl 44 (.tmp 21) rfl w10.heap.size rfl 44 _ (0, 0) _ HB10b.out Tryz.underlying44 rfl sizeNd ?_))
  refine CS3.out.mono ?_
  rintro e w14 ⟨rfl, hE14⟩
  have hE14 : Ext w13 w14 := hE14
  have HE14 := Lib.hid (HE13.out.trans hE14)
  have HRA14 := Lib.hid (HRA.out.ext hE14)
  have CC12 := C12.out w14 HE14.out
  rw [List.take_of_length_le (by omega)] at CC12
  have CC12 := Lib.hid CC12
  clear CS3 hE14 HB9b HB10b HRA
  go_wp2_with fail
  refine CC12.out.mono ?_
  rintro e w15 ⟨v15, vs15, rfl, hvl, hrow, hvn, hE15⟩
  obtain ⟨xa, xc, rfl, _, _, hR15, _⟩ := RowsOf.of_own (S := fun b => b < w15.heap.size) hrow rfl hvl (fun b _ h => h) hvn
  have hE15 : Ext w14 w15 := hE15
  have CN := Lib.hid (nodes_self (nodesOf M (UndL M s)) xa ra xc rc w15 (hR15.nds fun _ h => h) (HRA14.out.ext hE15) HFN.out (by omega))
  have HE15 := Lib.hid (HE14.out.trans hE15)
  clear CC12 hrow hvn hR15 hE15 hvl HRA14
  go_wp2_with fail
  refine CN.out.mono ?_
  rintro e w16 ⟨rfl, hE16⟩
  have HFIN := Lib.hid (HE15.out.trans hE16)
  clear CN hE16
  go_wp2
  go_ret
  exact ⟨rfl, HFIN.out⟩
end Go.Proofs.YthinpbdbhijbgaaGreatDoor
namespace Go.Proofs.YthinpbdbhijbgaaGreatDoor
open Go.RowKit Go.Sort
set_option maxHeartbeats 2000000
set_option maxRecDepth 100000

theorem wpList_append_nd {ops : Array Oper} {rest : List Oper} {o : Oper} {a : Act} {Q : Exit → Act → World → Prop} {W4 W5 : World} (hgd : o.guard = none) (s x : Operand)
    (ho : o.op = .call { callee := .builtin .append, args := #[s, x], argTypes := #[50, 50] })
    (base : Nat) (L : List Nd) (ov : Value) (hO : OwnN base L ov W4) (hE : Ext W4 W5) (hb : base ≤ W4.heap.size) (n : Nd) (cs : Array Value) (hN : NdS (fun k => W4.heap.size ≤ k ∧ k < W5.heap.size) W5 (.agg cs) n) (hl : (L.length + 1) * 168 ≤ 140737488355328)
    (hs : a.eval s = ov) (hx : a.eval x = .slice (some ⟨W5.heap.size, 0, none⟩) 1 1)
    (hK : ∀ v' W6, OwnN base (L ++ [n]) v' W6 → (∀ w0, Ext w0 W5 → w0.heap.size ≤ base → Ext w0 W6) → wpList Tryz.prog ops Q rest (a.put o.dst v') W6) : wpList Tryz.prog ops Q (o :: rest) a (W5.alloc (.cells cs 44)) := by
  obtain ⟨qa, qc, ra, rc, hcs, hQ1, hQ2⟩ := hN
  cases hcs
  obtain ⟨ws, hown4, heach4⟩ := hO
  have hz5 := hE.size
  have hlt4 : ∀ g, ov.ownBlock = some g → base ≤ g ∧ g < W4.heap.size := fun g hg => hown4.lt g hg
  have hown5 := hown4.kept (grown_of_ext hE none) (Classical.em _)
  have heach5 : EachN (NewN base ov W5) W5 ws L := heach4.imp (fun b hb => ⟨hb.1, Nat.lt_of_lt_of_le hb.2.1 hE.size, hb.2.2⟩) fun b o u _ hu => cell_ext hE b o u hu
  have hnew5 : NdS (NewN base ov W5) W5 (.agg (ndC n (.slice qa n.data.length qc) (.slice ra n.acl.length rc))) n := NdS.imp ⟨qa, qc, ra, rc, rfl, hQ1, hQ2⟩ (fun k hk => ⟨by omega, hk.2, fun e => by have := (hlt4 k e).2; omega⟩) fun _ _ _ _ h => h
  have hs17 : Cells (W5.alloc (.cells (ndC n (.slice qa n.data.length qc) (.slice ra n.acl.length rc)) 44)).heap.size (W5.alloc (.cells (ndC n (.slice qa n.data.length qc) (.slice ra n.acl.length rc)) 44)) (some ⟨W5.heap.size, 0, none⟩) (ndC n (.slice qa n.data.length qc) (.slice ra n.acl.length rc)).toList := fun j u hj => by
    refine ⟨_, 0, rfl, by simp, ?_⟩
    rw [Nat.zero_add, cell_of_row _ _ _ _ _ _ (heap_alloc_new W5 _)]
    simpa using hj
  have hsrc : Src Tryz.prog 17 50 (.slice (some ⟨W5.heap.size, 0, none⟩) 1 1) 1 (ndC n (.slice qa n.data.length qc) (.slice ra n.acl.length rc)).toList (W5.alloc (.cells (ndC n (.slice qa n.data.length qc) (.slice ra n.acl.length rc)) 44)) :=
    hs17.src Tryz.underlying50 1 1 (by simp [ndC]) (fun u hu => by
      have := cells_node n qa ra n.data.length n.acl.length qc rc
      rw [← Array.all_toList] at this
      exact List.all_eq_true.1 this u hu)
  obtain ⟨i0, hi, hz0, hz1', hz2⟩ := info_parts infoNd
  have hownA := hown5.alloc (.cells (ndC n (.slice qa n.data.length qc) (.slice ra n.acl.length rc)) 44)
  refine wpList_append_src _ hgd s x 50 50 ho base 44 i0 (.agg zeroNd) 17 168 Tryz.underlying50 hi hz0 hz1' hz2 rfl (by decide) ov L.length _ hs hownA _ 1 _ hx hsrc (by unfold maxLen; omega) hl (by simp; omega) ?_
  intro v' w6 hown6 hg6 _ ho6
  exact hK v' w6 (OwnN.step heach5 hnew5 hown6 hg6 (by simpa using ho6)) fun w0 hE0 hb0 => OwnN.keep hE0 hb0 hown5 hg6
end Go.Proofs.YthinpbdbhijbgaaGreatDoor
namespace Go.Proofs.YthinpbdbhijbgaaGreatDoor
open Go.RowKit
set_option maxHeartbeats 2000000
set_option maxRecDepth 100000

theorem rnew_any (p : ByteArray) (data : List UInt8) (acl : List Ac) (x y z : Int) (da aa : Option Addr) (dc ac : Nat) (w : World) (hf : Fit (newN p data acl x y z)) (hD : Cells w.heap.size w da (data.map u8v)) (hA : Cells w.heap.size w aa (acCs acl)) :
    Calls Tryz.prog 134 #[.string p, .slice da data.length dc, .slice aa acl.length ac, .int .i64 x, .int .i64 y, .int .i64 z] w (CloneNew (newN p data acl x y z) w) := by
  obtain ⟨i0, hi, hz0, hz1, hz2⟩ := info_parts infoU8
  obtain ⟨i1, hi', hz0', hz1', hz2'⟩ := info_parts infoAc
  have hfd : data.length ≤ 140737488355328 := hf.data
  have hfa : acl.length * 40 ≤ 140737488355328 := hf.acl
  obtain ⟨W1, hW1⟩ : ∃ W1, W1 = w.alloc (.cells zeroNd 44) := ⟨_, rfl⟩
  have hE1 : Ext w W1 := by rw [hW1]; exact Ext.alloc _ _
  have hzW : W1.heap.size = w.heap.size + 1 := by rw [hW1]; simp
  have hr1 : W1.heap[w.heap.size]? = some (.cells zeroNd 44 (0, 0)) := by rw [hW1]; exact heap_alloc_new w _
  have hown1 := ownsRow_empty W1 5 1
  rw [hzW] at hown1
  have hEa : Ext w (W1.alloc (.cells #[] 5)) := hE1.trans (Ext.alloc _ _)
  have hsrc1 : Src Tryz.prog 1 41 (.slice da data.length dc) data.length (data.map u8v) (W1.alloc (.cells #[] 5)) := (hD.below hEa).src Tryz.underlying41 _ _ (by simp) (one_u8 _)
  have HEa := Lib.hid hEa
  have HW1 := Lib.hid hW1
  have HR1 := Lib.hid hr1
  have HA := Lib.hid hA
  rw [hW1] at hown1 hsrc1
  unfold zeroNd at hown1 hsrc1 HW1
  clear hW1 hr1 hEa hD hA hE1
  go_enter Tryz.func134, Tryz.ntmps134
  go_wp2_with (at_builtin; refine wpList_append_src _ rfl (.tmp 14) (.tmp 15) 41 41 rfl (w.heap.size + 1) 5 i0 (.int .u8 0) 1 1 Tryz.underlying41 hi hz0 hz1 hz2 rfl (by decide) _ 0 _ rfl hown1 _ _ _ rfl hsrc1 ?c1 ?c2 ?c3 ?_)
  case c1 => simp only [maxLen]; omega
  case c2 => omega
  case c3 => simp
  intro v1 w4 ho1 hg1 _ _
  rw [← HW1.out] at hg1
  have hz4 := hg1.size
  simp only [World.size_alloc] at hz4
  have hE4 : Ext w w4 := HEa.out.trans' ⟨hg1.os, hg1.tape, hg1.output, hg1.size, fun k hk => hg1.block k (by simp; omega) (fun e => by have h : k = w.heap.size + 1 := Option.some.inj e; omega)⟩
  have hr4 : w4.heap[w.heap.size]? = some (.cells zeroNd 44 (0, 0)) := (hg1.block w.heap.size (by simp; omega) (fun e => by have h : w.heap.size = w.heap.size + 1 := Option.some.inj e; omega)).trans ((heap_alloc_old W1 _ (by omega)).trans HR1.out)
  obtain ⟨va, vc, rfl, hD4⟩ := ownsRow_cells ho1
  have hvb : ∀ b off, va = some ⟨b, off, none⟩ → w.heap.size + 1 ≤ b := by
    intro b off h
    subst h
    rcases ho1.2 with ⟨h, _⟩ | ⟨g, cap, cur, h, k1, _⟩
    · cases h
    · simp only [Value.slice.injEq, Option.some.injEq, Addr.mk.injEq] at h; omega
  have hown2 := ownsRow_empty w4 129 3
  have hEb : Ext w (w4.alloc (.cells #[] 129)) := hE4.trans (Ext.alloc _ _)
  have hsrc2 : Src Tryz.prog 3 42 (.slice aa acl.length ac) acl.length (acCs acl) (w4.alloc (.cells #[] 129)) := (HA.out.below hEb).src Tryz.underlying42 _ _ (acCs_length _) (one_ac _)
  have HD4 := Lib.hid hD4
  have HVB := Lib.hid hvb
  have HR4 := Lib.hid hr4
  have HEb := Lib.hid hEb
  clear ho1 hg1 hown1 hsrc1 hE4 hr4 hEb HW1 HR1 HEa HA hD4 hvb
  go_wp2_with (at_builtin; refine wpList_append_src _ rfl (.tmp 17) (.tmp 18) 42 42 rfl w4.heap.size 129 i1 (.agg #[.int .i32 0, .string ⟨#[]⟩, .string ⟨#[]⟩]) 3 40 Tryz.underlying42 hi' hz0' hz1' hz2' rfl (by decide) _ 0 _ rfl hown2 _ _ _ rfl hsrc2 ?d1 ?d2 ?d3 ?_)
  case d1 => simp only [maxLen]; omega
  case d2 => omega
  case d3 => simp
  intro v2 w6 ho2 hg2 _ _
  have hz6 := hg2.size
  simp only [World.size_alloc] at hz6
  have hE6 : Ext w w6 := HEb.out.trans' ⟨hg2.os, hg2.tape, hg2.output, hg2.size, fun k hk => hg2.block k (by simp; omega) (fun e => by have h : k = w4.heap.size := Option.some.inj e; omega)⟩
  have hr6 : w6.heap[w.heap.size]? = some (.cells zeroNd 44 (0, 0)) := (hg2.block w.heap.size (by simp; omega) (fun e => by have h : w.heap.size = w4.heap.size := Option.some.inj e; omega)).trans ((heap_alloc_old w4 _ (by omega)).trans HR4.out)
  have hD6 : ∀ j u, (data.map u8v)[j]? = some u → ∃ b off, va = some ⟨b, off, none⟩ ∧ (w.heap.size + 1 ≤ b ∧ b < w6.heap.size) ∧ w6.cell? ⟨b, off + j, none⟩ = some u := fun j u hj => by
    obtain ⟨b, off, h1, h2, h3⟩ := HD4.out j u hj
    have h4 := HVB.out b off h1
    exact ⟨b, off, h1, ⟨h4, by omega⟩, (World.cell?_of_block ((hg2.block b (by simp; omega) (fun e => by have h : b = w4.heap.size := Option.some.inj e; omega)).trans (heap_alloc_old w4 _ h2))).trans h3⟩
  obtain ⟨vb, vd, rfl, hA6⟩ := ownsRow_cells ho2
  have hvb2 : ∀ b off, vb = some ⟨b, off, none⟩ → w4.heap.size ≤ b := by
    intro b off h
    subst h
    rcases ho2.2 with ⟨h, _⟩ | ⟨g, cap, cur, h, k1, _⟩
    · cases h
    · simp only [Value.slice.injEq, Option.some.injEq, Addr.mk.injEq] at h; omega
  obtain ⟨cs, hcs⟩ : ∃ cs, cs = ndC (newN p data acl x y z) (.slice va data.length vc) (.slice vb acl.length vd) := ⟨_, rfl⟩
  have hr7 := setRow_heap w6 w.heap.size _ cs 44 (0, 0) hr6
  have hs7 : (w6.setRow w.heap.size cs).heap.size = w6.heap.size := by simp [World.setRow]
  have hE7 : Ext w (w6.setRow w.heap.size cs) := hE6.trans' ⟨rfl, rfl, rfl, by rw [hs7]; exact Nat.le_refl _, fun k hk => setRow_other _ _ _ _ (by omega)⟩
  have cD : CellsS (fun k => w.heap.size ≤ k ∧ k < (w6.setRow w.heap.size cs).heap.size) (w6.setRow w.heap.size cs) va (data.map u8v) := fun j u hj => by
    obtain ⟨b, off, h1, h2, h3⟩ := hD6 j u hj
    exact ⟨b, off, h1, ⟨by omega, by omega⟩, (World.cell?_of_block (setRow_other _ _ _ _ (show b ≠ w.heap.size by omega))).trans h3⟩
  have cA : CellsS (fun k => w.heap.size ≤ k ∧ k < (w6.setRow w.heap.size cs).heap.size) (w6.setRow w.heap.size cs) vb (acCs acl) := fun j u hj => by
    obtain ⟨b, off, h1, h2, h3⟩ := hA6 j u hj
    have h4 := hvb2 b off h1
    exact ⟨b, off, h1, ⟨by omega, by omega⟩, (World.cell?_of_block (setRow_other _ _ _ _ (show b ≠ w.heap.size by omega))).trans h3⟩
  have hfin : CloneNew (newN p data acl x y z) w (.returned (.agg cs)) (w6.setRow w.heap.size cs) := ⟨_, rfl, ⟨va, vc, vb, vd, by rw [hcs]; rfl, cD, cA⟩, hE7⟩
  have HFIN := Lib.hid hfin
  have HR6 := Lib.hid hr6
  have HR7 := Lib.hid hr7
  have hone : cs.all (·.oneCell') = true := by rw [hcs]; exact cells_node (newN p data acl x y z) va vb _ _ vc vd
  have hsz17 : (Tryz.prog.info? 44).map (·.size) = some cs.size := by rw [hcs]; exact sizeNd
  have HONE := Lib.hid hone
  have HSZ := Lib.hid hsz17
  have HCS := Lib.hid hcs
  unfold ndC newN at HCS
  unfold zeroNd at HR6
  clear hfin hr6 hr7 hD6 hA6 hvb2 hE6 hE7 cD cA ho2 hg2 hown2 hsrc2 hone hsz17 hcs HD4 HVB HR4 HEb
  go_wp2_with (rw [← HCS.out]; refine wpList_store_row rfl 44 (.tmp 12) (.tmp 26) rfl w.heap.size _ rfl rfl 44 _ HR6.out HSZ.out (by rw [HCS.out]; rfl) HONE.out ?_)
  refine bodyPost_ret (v := .agg cs) ?_ rfl HFIN.out
  exact results_cell_row (p := 12) (ty := 44) rfl _ _ w.heap.size 44 cs (0, 0) _ rfl HR7.out Tryz.underlying44 rfl HSZ.out

theorem rroot_any (w : World) : Calls Tryz.prog 59 #[] w (CloneNew rootN w) := by
  obtain ⟨W1, hW1⟩ : ∃ W1, W1 = w.alloc (.cells zeroNd 44) := ⟨_, rfl⟩
  obtain ⟨W2, hW2⟩ : ∃ W2, W2 = W1.alloc (.cells #[.int .i32 31, .string ⟨#[119, 111, 114, 108, 100]⟩, .string ⟨#[97, 110, 121, 111, 110, 101]⟩] 129) := ⟨_, rfl⟩
  have hE1 : Ext w W1 := by rw [hW1]; exact Ext.alloc _ _
  have hE2 : Ext W1 W2 := by rw [hW2]; exact Ext.alloc _ _
  have hz1 : W1.heap.size = w.heap.size + 1 := by rw [hW1]; simp
  have hz2 : W2.heap.size = w.heap.size + 1 + 1 := by rw [hW2]; simp [hz1]
  have hr2 : W2.heap[w.heap.size]? = some (.cells zeroNd 44 (0, 0)) := (hE2.block _ (by omega)).trans (by rw [hW1]; exact heap_alloc_new w _)
  have hA : Cells W2.heap.size W2 (some ⟨w.heap.size + 1, 0, none⟩) (acCs [rootAc]) := fun j u hj => by
    refine ⟨_, 0, rfl, by omega, ?_⟩
    have h := heap_alloc_new W1 (.cells #[.int .i32 31, .string ⟨#[119, 111, 114, 108, 100]⟩, .string ⟨#[97, 110, 121, 111, 110, 101]⟩] 129)
    rw [← hW2, hz1] at h
    rw [Nat.zero_add, cell_of_row _ _ _ _ _ _ h]
    simpa [acCs, acC, rootAc] using hj
  have C1 := rnew_any rootP [] [rootAc] 0 0 0 none (some ⟨w.heap.size + 1, 0, none⟩) 0 1 W2 (right_fit rootN_right).1 (Cells.nil _ _ _) hA
  have hW : (w.alloc (.cells zeroNd 44)).alloc (.cells #[.int .i32 31, .string ⟨#[119, 111, 114, 108, 100]⟩, .string ⟨#[97, 110, 121, 111, 110, 101]⟩] 129) = W2 := by rw [hW2, hW1]
  have HW := Lib.hid hW
  have HR2 := Lib.hid hr2
  have HE2 := Lib.hid (hE1.trans hE2)
  have C1 := Lib.hid C1
  unfold zeroNd at HW HR2
  unfold rootP at C1
  clear hW hA hr2 hE1 hE2 hW2 hW1
  go_enter Tryz.func59, Tryz.ntmps59
  go_wp2_with fail
  rw [HW.out]
  refine C1.out.mono ?_
  rintro e w3 ⟨v, rfl, hN, hE3⟩
  have hE3 : Ext W2 w3 := hE3
  obtain ⟨va, vc, vb, vd, rfl, h1, h2⟩ := hN
  have hz3 := hE3.size
  have hr3 := (hE3.block w.heap.size (by omega)).trans HR2.out
  obtain ⟨cs, hcs⟩ : ∃ cs, cs = ndC rootN (.slice va 0 vc) (.slice vb 1 vd) := ⟨_, rfl⟩
  have hr4 := setRow_heap w3 w.heap.size _ cs 44 (0, 0) hr3
  have hs4 : (w3.setRow w.heap.size cs).heap.size = w3.heap.size := by simp [World.setRow]
  have hE4 : Ext w (w3.setRow w.heap.size cs) := (HE2.out.trans hE3).trans' ⟨rfl, rfl, rfl, by rw [hs4]; exact Nat.le_refl _, fun k hk => setRow_other _ _ _ _ (by omega)⟩
  have hk : ∀ (b o : Nat) u, (W2.heap.size ≤ b ∧ b < w3.heap.size) → w3.cell? ⟨b, o, none⟩ = some u → (w3.setRow w.heap.size cs).cell? ⟨b, o, none⟩ = some u := fun b o u hb hu =>
    (World.cell?_of_block (setRow_other _ _ _ _ (show b ≠ w.heap.size by have := hb.1; omega))).trans hu
  have hfin : CloneNew rootN w (.returned (.agg cs)) (w3.setRow w.heap.size cs) := ⟨_, rfl, ⟨va, vc, vb, vd, by rw [hcs]; rfl, h1.imp (fun b hb => ⟨by omega, by omega⟩) hk, h2.imp (fun b hb => ⟨by omega, by omega⟩) hk⟩, hE4⟩
  have HFIN := Lib.hid hfin
  have HR3 := Lib.hid hr3
  have HR4 := Lib.hid hr4
  have HONE := Lib.hid (show cs.all (·.oneCell') = true by rw [hcs]; exact cells_node rootN va vb 0 1 vc vd)
  have HSZ := Lib.hid (show (Tryz.prog.info? 44).map (·.size) = some cs.size by rw [hcs]; exact sizeNd)
  have HS17 := Lib.hid (show cs.size = 17 by rw [hcs]; rfl)
  have hcs2 : ndC (newN ⟨#[47]⟩ [] [rootAc] 0 0 0) (.slice va (newN ⟨#[47]⟩ [] [rootAc] 0 0 0).data.length vc) (.slice vb (newN ⟨#[47]⟩ [] [rootAc] 0 0 0).acl.length vd) = cs := by rw [hcs]; rfl
  rw [hcs2]
  clear hfin hr3 hr4 hE4 hE3 h1 h2 C1 hk hcs hcs2
  go_wp2_with (refine wpList_store_row rfl 44 (.tmp 0) (.tmp 4) rfl w.heap.size _ rfl rfl 44 _ HR3.out HSZ.out (by rw [HS17.out]; rfl) HONE.out ?_)
  refine bodyPost_ret (v := .agg cs) ?_ rfl HFIN.out
  exact results_cell_row (p := 0) (ty := 44) rfl _ _ w.heap.size 44 cs (0, 0) _ rfl HR4.out Tryz.underlying44 rfl HSZ.out
end Go.Proofs.YthinpbdbhijbgaaGreatDoor
