/- The walk of layer 9's alive; the first note in a book. The walk of layer 9's alive. The law DigestBooks, walked. A slice of notes, opened; five arguments. -/
import Derived.Test.YtfgjbcejpjcpeaaDoorJDigestBooks8
import Derived.Test.YtfgjbcejpjcpeaaDoorJDigestBooks10
import Derived.Test.YtfgjbcejpjcpeaaDoorJDigestBooks11
import Derived.Test.YtfgjbcejpjcpeaaDoorJDigestBooks2
namespace Go.Proofs.YtfgjbcejpjcpeaaDoor
open Go.RowKit
set_option maxHeartbeats 4000000
set_option maxRecDepth 100000

/-- The cells of a book of every second number, two at the most. -/
def bkC (l : Int) (v : Value) : Array Value := #[.int .i64 2, .int .i64 2, .int .i64 l, v, .int .i64 0]

def FirstOut (w : World) (bb : Nat) (e : Ending) (w' : World) : Prop :=
  e = .returned (.bool true) ∧ (∃ v, w'.heap[bb]? = some (.cells (bkC 2 v) 107 (0, 0)) ∧ ∃ a c, v = .slice a 1 c) ∧ But bb w w'

/-- What the appending of an entry to a nil ring leaves, operation by operation. -/
def PhiF (bb : Nat) (i : Nat) (v : Value) (w : World) : Prop :=
  match i with
  | 0 | 1 | 2 | 8 => v = .pointer (some ⟨bb, 0, none⟩)
  | 3 | 9 => v = .pointer (some ⟨bb, 3, none⟩)
  | 4 => v = .slice none 0 0
  | 5 => v = .agg #[.int .i64 2, .int .u64 6]
  | 6 => ∃ g, v = .slice (some ⟨g, 0, none⟩) 1 1 ∧ w.heap[g]? = some (.cells #[.int .i64 2, .int .u64 6] 109 (0, 0))
  | 7 => ∃ a c, v = .slice a 1 c
  | _ => False
theorem PhiF.stab (bb : Nat) : ∀ i v w w', PhiF bb i v w → Ext w w' → PhiF bb i v w' := by
  intro i v w w' h hE
  unfold PhiF at *
  split <;> rename_i hi <;> simp only [] at h ⊢ <;> try exact h
  obtain ⟨g, rfl, hg⟩ := h
  exact ⟨g, rfl, (hE.block g (Array.getElem?_eq_some_iff.1 hg).1).trans hg⟩

theorem notefirst_any (w : World) (bb : Nat) (hb : w.heap[bb]? = some (.cells (bkC 0 (.slice none 0 0)) 107 (0, 0))) :
    Calls Tryd.prog 25 #[.pointer (some ⟨bb, 0, none⟩), .int .i64 2, .int .u64 6] w (FirstOut w bb) := by
  have hx : Box w bb (bkC 0 (.slice none 0 0)) := fun j => cell_of_row _ _ _ _ _ _ hb
  obtain ⟨W1, hW1⟩ : ∃ W1, W1 = w.setRow bb (bkC 2 (.slice none 0 0)) := ⟨_, rfl⟩
  have hb1 : W1.heap[bb]? = some (.cells (bkC 2 (.slice none 0 0)) 107 (0, 0)) := by rw [hW1]; exact setRow_heap _ _ _ _ _ _ hb
  have hx1 : Box W1 bb (bkC 2 (.slice none 0 0)) := fun j => cell_of_row _ _ _ _ _ _ hb1
  have hC1 : But bb w W1 := by rw [hW1]; exact But.set _ _ _
  have hbl : bb < W1.heap.size := (Array.getElem?_eq_some_iff.1 hb1).1
  obtain ⟨W2, hW2⟩ : ∃ W2, W2 = W1.alloc (.cells #[.int .i64 2, .int .u64 6] 109) := ⟨_, rfl⟩
  have hE2 : Ext W1 W2 := by rw [hW2]; exact Ext.alloc _ _
  have HSET := Lib.hid ((setRow_alloc W1 #[.int .i64 0, .int .u64 0] #[.int .i64 2, .int .u64 6] 109).trans hW2.symm)
  have HNew := Lib.hid (heap_alloc_new W1 (.cells #[.int .i64 0, .int .u64 0] 109))
  have ce : W2.heap[W1.heap.size]? = some (.cells #[.int .i64 2, .int .u64 6] 109 (0, 0)) := by rw [hW2]; exact heap_alloc_new _ _
  have hb2 := (hE2.block bb hbl).trans hb1
  have HB2 := Lib.hid hb2
  have HCE := Lib.hid ce
  have HC2 := Lib.hid (hC1.trans (But.of_ext hE2))
  have HC1' := Lib.hid (show W2.cell? ⟨bb, 1, none⟩ = some (.int .i64 2) from cell_of_row _ _ 1 _ _ _ hb2)
  have HC3' := Lib.hid (show W2.cell? ⟨bb, 3, none⟩ = some (.slice none 0 0) from cell_of_row _ _ 3 _ _ _ hb2)
  have hbl2 : bb ≠ W1.heap.size := by omega
  have HBLK := Lib.hid hb
  have HW1 := Lib.hid hW1
  have hdm : ((bits .and .i64 2 4294967295).tmod 2 != 0) = false := by decide +kernel
  unfold Box bkC at hx hx1
  unfold bkC at HBLK HW1
  clear hW1 hb1 hC1 hW2 hE2 ce hb2 hb
  go_enter Tryd.func25, Tryd.ntmps25
  go_wp2_with (first | (refine wpList_store_in rfl 2 (.tmp 25) (.tmp 23) rfl bb 2 (.int .i64 2) rfl rfl (by simp [Value.cells, Value.oneCell']) 107 _ HBLK.out (by simp [Value.cells]) infoI64 #[.int .i64 2, .int .i64 2, .int .i64 2, .slice none 0 0, .int .i64 0] (by simp [Value.cells]) ?_; rw [← HW1.out]) | (refine wpList_store_row rfl 109 (.tmp 7) (.tmp 36) rfl W1.heap.size _ rfl rfl 109 _ HNew.out sizeEnt rfl (by simp [Value.oneCell']) ?_; rw [HSET.out]))
  have c1 := HC1'.out
  have c3 := HC3'.out
  refine wp_region_P (by kernel_rfl) (region_vals 80 [.pointer (some ⟨bb, 0, none⟩), .pointer (some ⟨bb, 0, none⟩), .pointer (some ⟨bb, 3, none⟩), .slice none 0 0, .int .i64 0, .pointer (some ⟨bb, 0, none⟩), .pointer (some ⟨bb, 0, none⟩), .pointer (some ⟨bb, 1, none⟩), .int .i64 2, .bool true] rfl (by decide) rfl ?duties ?rest)
  case duties =>
    refine ⟨?_, ?_, ?_, ?_, ?_, ?_, ?_, ?_, ?_, ?_, trivial⟩
    · refine duty_free rfl fun a w' hE hF hA => ?_
      have x1 := hF.slot 0 _ (by decide) rfl
      exact wp_value (w' := w') (v := .pointer (some ⟨bb, 0, none⟩)) (by simp only [execOp, x1]; simp [go_sem]) ⟨_, rfl, rfl, Ext.refl _⟩
    · refine duty_free rfl fun a w' hE hF hA => ?_
      have x1 := hA.val 0 37 rfl rfl ⟨⟨0, .data⟩, by simp, rfl, rfl⟩ rfl
      exact wp_value (w' := w') (v := .pointer (some ⟨bb, 0, none⟩)) (by simp only [execOp, x1]; simp [go_sem]) ⟨_, rfl, rfl, Ext.refl _⟩
    · refine duty_free rfl fun a w' hE hF hA => ?_
      have x1 := hA.val 1 38 rfl rfl ⟨⟨1, .data⟩, by simp, rfl, rfl⟩ rfl
      exact wp_value (w' := w') (v := .pointer (some ⟨bb, 3, none⟩)) (by simp only [execOp, x1]; simp [go_sem]) ⟨_, rfl, rfl, Ext.refl _⟩
    · refine duty_free rfl fun a w' hE hF hA => ?_
      have x1 := hA.val 2 39 rfl rfl ⟨⟨2, .data⟩, by simp, rfl, rfl⟩ rfl
      exact wp_value (ex_cell rfl _ _ x1 ((hE.cell (World.block_lt_of_cell? _ _ c3)).trans c3) rfl Tryd.underlying105) ⟨_, rfl, rfl, Ext.refl _⟩
    · refine duty_free rfl fun a w' hE hF hA => ?_
      have x1 := hA.val 3 40 rfl rfl ⟨⟨3, .data⟩, by simp, rfl, rfl⟩ rfl
      exact wp_value (w' := w') (v := .int .i64 0) (by simp only [execOp, resolve, List.map_toArray, List.map_cons, List.map_nil, x1]; simp [go_sem, invoke, builtin, Builtin.len_]) ⟨_, rfl, rfl, Ext.refl _⟩
    · refine duty_free rfl fun a w' hE hF hA => ?_
      have x1 := hF.slot 0 _ (by decide) rfl
      exact wp_value (w' := w') (v := .pointer (some ⟨bb, 0, none⟩)) (by simp only [execOp, x1]; simp [go_sem]) ⟨_, rfl, rfl, Ext.refl _⟩
    · refine duty_free rfl fun a w' hE hF hA => ?_
      have x1 := hA.val 5 42 rfl rfl ⟨⟨5, .data⟩, by simp, rfl, rfl⟩ rfl
      exact wp_value (w' := w') (v := .pointer (some ⟨bb, 0, none⟩)) (by simp only [execOp, x1]; simp [go_sem]) ⟨_, rfl, rfl, Ext.refl _⟩
    · refine duty_free rfl fun a w' hE hF hA => ?_
      have x1 := hA.val 6 43 rfl rfl ⟨⟨6, .data⟩, by simp, rfl, rfl⟩ rfl
      exact wp_value (w' := w') (v := .pointer (some ⟨bb, 1, none⟩)) (by simp only [execOp, x1]; simp [go_sem]) ⟨_, rfl, rfl, Ext.refl _⟩
    · refine duty_free rfl fun a w' hE hF hA => ?_
      have x1 := hA.val 7 44 rfl rfl ⟨⟨7, .data⟩, by simp, rfl, rfl⟩ rfl
      exact wp_value (ex_cell rfl _ _ x1 ((hE.cell (World.block_lt_of_cell? _ _ c1)).trans c1) rfl Tryd.underlying3) ⟨_, rfl, rfl, Ext.refl _⟩
    · refine duty_free rfl fun a w' hE hF hA => ?_
      have x1 := hA.val 4 41 rfl rfl ⟨⟨4, .data⟩, by simp, rfl, rfl⟩ rfl
      have x2 := hA.val 8 45 rfl rfl ⟨⟨8, .data⟩, by simp, rfl, rfl⟩ rfl
      exact wp_value (w' := w') (v := .bool true) (by simp only [execOp, x1, x2]; simp [go_sem]) ⟨_, rfl, rfl, Ext.refl _⟩
  case rest =>
    intro W3 hE3
    clear c1 c3
    simp only [filled, List.zip_cons_cons, List.zip_nil_left, List.foldl_cons, List.foldl_nil, Act.put, List.setIfInBounds_toArray, List.set_cons_succ, List.set_cons_zero, Exit.then]
    rename_i hK
    refine hK _ _ ?_
    go_wp2
    have hb3 := (hE3.block bb (Array.getElem?_eq_some_iff.1 HB2.out).1).trans HB2.out
    have ce3 := (hE3.block _ (Array.getElem?_eq_some_iff.1 HCE.out).1).trans HCE.out
    have c3 : W3.cell? ⟨bb, 3, none⟩ = some (.slice none 0 0) := cell_of_row _ _ 3 _ _ _ hb3
    obtain ⟨i0, hi, hz0, hz1', hz2⟩ := info_parts infoEnt
    refine wp_region_last_e 80 (by kernel_rfl) (PhiF bb) (PhiF.stab bb) (by decide) rfl 10 _ rfl rfl rfl rfl ?duties2 ?last
    case duties2 =>
      refine ⟨?_, ?_, ?_, ?_, ?_, ?_, ?_, ?_, ?_, ?_, trivial⟩
      · exact duty_free rfl fun a w' hE hF hA => wp_value (w' := w') (ex_move rfl) ⟨_, rfl, hF.slot 0 _ (by decide) rfl, Ext.refl _⟩
      · exact duty_free rfl fun a w' hE hF hA => wp_value (w' := w') (ex_move rfl) ⟨_, rfl, hF.slot 0 _ (by decide) rfl, Ext.refl _⟩
      · refine duty_free rfl fun a w' hE hF hA => ?_
        have x1 : a.eval (.tmp 48) = _ := hA.slot 1 48 rfl rfl ⟨⟨1, .data⟩, by simp, rfl, rfl⟩
        exact wp_value (ex_nilCheck rfl _ x1) ⟨_, rfl, rfl, Ext.refl _⟩
      · refine duty_free rfl fun a w' hE hF hA => ?_
        have x1 : a.eval (.tmp 49) = _ := hA.slot 2 49 rfl rfl ⟨⟨2, .data⟩, by simp, rfl, rfl⟩
        exact wp_value (v := .pointer (some ⟨bb, 3, none⟩)) (w' := w') (by simp only [execOp, x1]; simp [go_sem]) ⟨_, rfl, rfl, Ext.refl _⟩
      · refine duty_free rfl fun a w' hE hF hA => ?_
        have x1 : a.eval (.tmp 50) = _ := hA.slot 3 50 rfl rfl ⟨⟨3, .data⟩, by simp, rfl, rfl⟩
        exact wp_value (ex_cell rfl _ _ x1 ((hE.cell (World.block_lt_of_cell? _ _ c3)).trans c3) rfl Tryd.underlying105) ⟨_, rfl, rfl, Ext.refl _⟩
      · refine duty_free rfl fun a w' hE hF hA => ?_
        have x1 := hF.slot 7 _ (by decide) rfl
        exact wp_value (ex_load_row rfl _ x1 109 _ (0, 0) _ ((hE.block _ (Array.getElem?_eq_some_iff.1 ce3).1).trans ce3) Tryd.underlying109 rfl sizeEnt) ⟨_, rfl, rfl, Ext.refl _⟩
      · refine duty_free rfl fun a w' hE hF hA => ?_
        have x1 : a.eval (.tmp 52) = _ := hA.slot 5 52 rfl rfl ⟨⟨5, .data⟩, by simp, rfl, rfl⟩
        refine wp_buildSlice 105 109 1 _ rfl #[.int .i64 2, .int .u64 6] i0 (.agg #[.int .i64 0, .int .u64 0]) Tryd.underlying105 hi hz0 (by rw [hz1']; decide) (by rw [hz1']; decide) (by simp only [List.map_toArray, List.map_cons, List.map_nil, x1, hz1']; kernel_rfl) ⟨_, rfl, ⟨w'.heap.size, rfl, heap_alloc_new _ _⟩, Ext.alloc _ _⟩
      · refine duty_free rfl fun a w' hE hF hA => ?_
        have x1 : a.eval (.tmp 51) = _ := hA.slot 4 51 rfl rfl ⟨⟨4, .data⟩, by simp, rfl, rfl⟩
        obtain ⟨g, x2, hg⟩ : ∃ g, a.eval (.tmp 53) = .slice (some ⟨g, 0, none⟩) 1 1 ∧ w'.heap[g]? = some (.cells #[.int .i64 2, .int .u64 6] 109 (0, 0)) := hA.slot 6 53 rfl rfl ⟨⟨6, .data⟩, by simp, rfl, rfl⟩
        have hcs : Cells w'.heap.size w' (some ⟨g, 0, none⟩) [.int .i64 2, .int .u64 6] := fun j u hj => ⟨g, 0, rfl, (Array.getElem?_eq_some_iff.1 hg).1, by rw [Nat.zero_add, cell_of_row _ _ _ _ _ _ hg]; simpa using hj⟩
        have hsrc : Src Tryd.prog 2 105 (.slice (some ⟨g, 0, none⟩) 1 1) 1 [.int .i64 2, .int .u64 6] w' := hcs.src Tryd.underlying105 1 1 rfl (by simp [Value.oneCell'])
        obtain ⟨v', w2, hr, hown, hgr, _, _⟩ := run_append_own_src (P := Tryd.prog) w' w'.heap.size 105 105 105 109 i0 (.agg #[.int .i64 0, .int .u64 0]) 2 16 Tryd.underlying105 hi hz0 hz1' hz2 rfl (by decide) (.slice none 0 0) 0 [] (World.ownsRow_nil _ _ _ _) _ 1 _ hsrc (by unfold maxLen; omega) (by omega) (Nat.le_refl _)
        obtain ⟨a', c', rfl, _⟩ := ownsRow_from hown
        exact wp_value (ex_append rfl (by rw [x1, x2]; exact hr)) ⟨_, rfl, ⟨a', c', rfl⟩, ⟨hgr.os, hgr.tape, hgr.output, hgr.size, fun k hk => hgr.block k hk (by simp [Value.ownBlock])⟩⟩
      · refine duty_free rfl fun a w' hE hF hA => ?_
        have x1 : a.eval (.tmp 47) = _ := hA.slot 0 47 rfl rfl ⟨⟨0, .data⟩, by simp, rfl, rfl⟩
        exact wp_value (ex_nilCheck rfl _ x1) ⟨_, rfl, rfl, Ext.refl _⟩
      · refine duty_free rfl fun a w' hE hF hA => ?_
        have x1 : a.eval (.tmp 55) = _ := hA.slot 8 55 rfl rfl ⟨⟨8, .data⟩, by simp, rfl, rfl⟩
        exact wp_value (v := .pointer (some ⟨bb, 3, none⟩)) (w' := w') (by simp only [execOp, x1]; simp [go_sem]) ⟨_, rfl, rfl, Ext.refl _⟩
    case last =>
      intro us W4 hE4 hl hP
      have hl' : us.length = 10 := by simpa using hl
      clear hl
      obtain ⟨u0, u1, u2, u3, u4, u5, u6, u7, u8, u9, rfl⟩ := us10 us hl'
      have h7 : ∃ a c, u7 = .slice a 1 c := hP 7 u7 rfl
      have h7a := h7.choose_spec
      generalize h7.choose = a' at h7a
      have h7b := h7a.choose_spec
      generalize h7a.choose = c' at h7b
      have h9 : u9 = .pointer (some ⟨bb, 3, none⟩) := hP 9 u9 rfl
      subst h7b h9
      clear h7 h7a
      have hb4 := (hE4.block bb (Array.getElem?_eq_some_iff.1 hb3).1).trans hb3
      have hfin : FirstOut w bb (.returned (.bool true)) (W4.setRow bb #[.int .i64 2, .int .i64 2, .int .i64 2, .slice a' 1 c', .int .i64 0]) :=
        ⟨rfl, ⟨_, setRow_heap _ _ _ _ _ _ hb4, a', c', rfl⟩, ((HC2.out.trans (But.of_ext hE3)).trans (But.of_ext hE4)).trans (But.set _ _ _)⟩
      have HFIN := Lib.hid hfin
      have HB4 := Lib.hid hb4
      unfold bkC at HB4
      clear hfin hb4 hb3 ce3 c3 hP hl'
      simp only [filled, List.take_succ_cons, List.take_zero, List.zip_cons_cons, List.zip_nil_left, List.foldl_cons, List.foldl_nil, Act.put, List.setIfInBounds_toArray, List.set_cons_succ, List.set_cons_zero]
      refine wp_store_in 105 (.tmp 56) (.tmp 54) bb 3 (.slice a' 1 c') 107 _ #[.int .i64 2, .int .i64 2, .int .i64 2, .slice a' 1 c', .int .i64 0] HB4.out (by simp [Value.cells]) infoEnts (by simp [Value.cells]) (by simp [Value.cells, Value.oneCell']) ?_ rfl rfl rfl
      simp only [Exit.inBlock, Exit.then, Act.put]
      rename_i hK2
      refine hK2 _ _ ?_
      go_wp2
      go_ret
      exact HFIN.out
end Go.Proofs.YtfgjbcejpjcpeaaDoor
namespace Go.Proofs.YtfgjbcejpjcpeaaDoor
open Go.RowKit
set_option maxHeartbeats 4000000
set_option maxRecDepth 100000

theorem blen_row (w : World) (bb : Nat) (a : Option Addr) (n c : Nat) (h3 : w.cell? ⟨bb, 3, none⟩ = some (.slice a n c)) : Calls Tryd.prog 31 #[.pointer (some ⟨bb, 0, none⟩)] w fun e w' => e = .returned (.int .i64 n) ∧ w = w' := by
  go_enter Tryd.func31, Tryd.ntmps31
  go_wp2
  go_ret
  exact ⟨rfl, rfl⟩

theorem root_number : addN 0 [rootN] ≠ 0 := by decide +kernel

theorem alive9_any (w : World) (hT : Tabs w) : Calls Tryd.prog 18 #[] w fun e w' => e = .returned (.bool true) ∧ Ext w w' := by
  have hsz := hT.size
  have C1 := newbook_any 2 2 w
  unfold NewBookOut at C1
  simp only [show ((1 : Int) ≤ 2 ∧ (1 : Int) ≤ 2) from by decide, if_true, and_self] at C1
  have C1 := Lib.hid C1
  have HT := Lib.hid hT
  clear hT
  go_enter Tryd.func18, Tryd.ntmps18
  go_wp2_with fail
  refine C1.out.mono ?_
  rintro e W1 ⟨bb, rfl, hbb, hB, hE1⟩
  have hbl := hB.bound _ hB.mine
  have C2 : Calls Tryd.prog 50 #[.slice none 0 0] W1 fun e w' => e = .returned (.int .u64 14695981039346656037) ∧ W1 = w' := sum_any none 0 [] W1 (Cells.nil _ _ _) (by simp)
  have C2 := Lib.hid C2
  have C3 := Lib.hid (notefirst_any W1 bb hB.blk)
  have HE1 := Lib.hid hE1
  have hz1 := hE1.size
  clear hB hE1 C1
  go_wp2_with fail
  refine C2.out.mono ?_
  rintro e W2 ⟨rfl, rfl⟩
  clear C2
  go_wp2_with fail
  refine C3.out.mono ?_
  rintro e W2 ⟨rfl, ⟨v, hrow, a, c, rfl⟩, hBut⟩
  have hB2 : Ext w W2 := HE1.out.trans' (hBut.below hbb (by omega))
  have C4 := Lib.hid (blen_row W2 bb a 1 c (cell_of_row _ _ 3 _ _ _ hrow))
  have C5 := Lib.hid (new_any W2)
  have HB2 := Lib.hid hB2
  clear C3 hrow hBut hB2
  go_wp2_with fail
  refine C4.out.mono ?_
  rintro e W3 ⟨rfl, rfl⟩
  clear C4
  go_wp2_with fail
  refine C5.out.mono ?_
  rintro e W3 ⟨bt, rfl, hTr, hE3⟩
  have hE3 : Ext W2 W3 := hE3
  have hB3 := HB2.out.trans hE3
  have C6 := dof_any _ W3 bt _ _ hTr (HT.out.below hB3 hsz) (by simp)
  simp only [List.map_cons, List.map_nil] at C6
  have C6 := Lib.hid C6
  have HB3 := Lib.hid hB3
  have hne : (addN 0 [rootN] != 0) = true := by simpa using root_number
  have hne2 : decide (addN 0 [rootN] = 0) = false := by simpa using root_number
  clear hTr hE3 hB3 C5
  go_wp2_with fail
  refine C6.out.mono ?_
  rintro e W4 ⟨rfl, hE4⟩
  have HFIN := Lib.hid (HB3.out.trans hE4)
  clear hE4 C6
  go_wp2
  go_ret
  exact ⟨rfl, HFIN.out⟩
end Go.Proofs.YtfgjbcejpjcpeaaDoor
namespace Go.Proofs.YtfgjbcejpjcpeaaDoor
open Go.RowKit
set_option maxHeartbeats 8000000
set_option maxRecDepth 100000

/-- Notes in memory. -/
def NtAt (B : Nat) (w : World) (a : Option Addr) (ns : List (Int × Int)) : Prop :=
  ∀ i e, ns[i]? = some e → ∃ b off, a = some ⟨b, off, none⟩ ∧ b < B ∧ w.cell? ⟨b, off + i * 2, none⟩ = some (.int .i64 e.1) ∧ w.cell? ⟨b, off + i * 2 + 1, none⟩ = some (.int .u64 e.2)
theorem NtAt.below {B : Nat} {w w' : World} {a : Option Addr} {ns : List (Int × Int)} (h : NtAt B w a ns) (hb : Below B w w') : NtAt B w' a ns := fun i e hi => by
  obtain ⟨b, off, h1, h2, h3, h4⟩ := h i e hi
  exact ⟨b, off, h1, h2, (hb.cell (p := ⟨b, off + i * 2, none⟩) h2).trans h3, (hb.cell (p := ⟨b, off + i * 2 + 1, none⟩) h2).trans h4⟩

/-- Where the two books stand while a note is on its way: 11 is the first's, 23 the second's. -/
def PG (Sa0 Sr0 : Nat → Prop) (W6 : World) (ba rb : Nat) (every most la : Int) (R : List (Int × Int)) (first : Nat) (L : List (Int × Int)) (z v : Int) (d : Nat → Bool) (w : World) : Prop :=
  Two Sa0 Sr0 W6 ba rb every most (if d 11 = true then (noteR every most la R first z v).2.1 else la) (if d 23 = true then (noteL every most la L z v).2.1 else la) (if d 11 = true then (noteR every most la R first z v).2.2.1 else R) (if d 11 = true then (noteR every most la R first z v).2.2.2 else first) (if d 23 = true then (noteL every most la L z v).2.2 else L) w
theorem PG.ext {Sa0 Sr0 : Nat → Prop} {W6 : World} {ba rb : Nat} {every most la : Int} {R : List (Int × Int)} {first : Nat} {L : List (Int × Int)} {z v : Int} {i : Nat} (h1 : 11 ≠ i) (h2 : 23 ≠ i) : ∀ (d d' : Nat → Bool) (w w' : World), PG Sa0 Sr0 W6 ba rb every most la R first L z v d w → Ext w w' → (∀ k, k ≠ i → d' k = d k) → PG Sa0 Sr0 W6 ba rb every most la R first L z v d' w' := by
  intro d d' w w' h hE hk
  unfold PG at *
  rw [hk 11 h1, hk 23 h2]
  exact h.ext hE

/-- Behind so many notes: both books, and what they keep. -/
def LoopI (Sa0 Sr0 : Nat → Prop) (W6 : World) (ba rb : Nat) (every most : Int) (k : Nat) (w : World) : Prop :=
  ∃ la R first L, Two Sa0 Sr0 W6 ba rb every most la la R first L w ∧ Ring most la R first L ∧ R.length ≤ k

theorem noteR_length (every most la : Int) (R : List (Int × Int)) (first : Nat) (z v : Int) : (noteR every most la R first z v).2.2.1.length ≤ R.length + 1 := by
  unfold noteR
  split
  · simp
  · split
    · simp
    · split <;> simp

theorem books_walk (every most : Int) (A B : List (Int × Int)) (aA aB : Option Addr) (cA cB : Nat) (zat : Int) (w : World) (hT : Tabs w) (hA : NtAt w.heap.size w aA A) (hB : NtAt w.heap.size w aB B) (hlA : A.length * 16 ≤ 140737488355328) (hlB : B.length * 16 ≤ 140737488355328) (hzA : ∀ e ∈ A, e.1 ≤ 9223372036854775807) (hzB : ∀ e ∈ B, e.1 ≤ 9223372036854775807)
    (he : 1 ≤ every) (hm : 1 ≤ most) (hmx : most ≤ 9223372036854775807) :
    Calls Tryd.prog 6 #[.int .i64 every, .int .i64 most, .slice aA A.length cA, .slice aB B.length cB, .int .i64 zat] w fun e w' => e = .returned (.bool true) ∧ Below w.heap.size w w' := by
  have hsz := hT.size
  have C1 := newbook_any every most w
  unfold NewBookOut at C1
  simp only [if_pos (show 1 ≤ every ∧ 1 ≤ most from ⟨he, hm⟩)] at C1
  have C1 := Lib.hid C1
  have HT := Lib.hid hT
  have HA := Lib.hid hA
  have HB := Lib.hid hB
  have HZA := Lib.hid hzA
  have HZB := Lib.hid hzB
  clear hT hA hB hzA hzB
  go_enter Tryd.func6, Tryd.ntmps6
  go_wp2_with fail
  refine C1.out.mono ?_
  rintro e W1 ⟨ba, rfl, hba, hBA, hE1⟩
  have hE1 : Ext w W1 := hE1
  have C2 := rnewbook_any every most W1
  unfold RNewOut at C2
  simp only [if_pos (show 1 ≤ every ∧ 1 ≤ most from ⟨he, hm⟩)] at C2
  have C2 := Lib.hid C2
  have HBA := Lib.hid hBA
  have HE1 := Lib.hid hE1
  have hz1 := hE1.size
  clear C1 hBA hE1
  go_wp2_with fail
  refine C2.out.mono ?_
  rintro e W2 ⟨rb, rfl, hrb, hBR, hE2⟩
  have hE2 : Ext W1 W2 := hE2
  have C3 := newbook_any every most W2
  unfold NewBookOut at C3
  simp only [if_pos (show 1 ≤ every ∧ 1 ≤ most from ⟨he, hm⟩)] at C3
  have C3 := Lib.hid C3
  have HBR := Lib.hid hBR
  have HE2 := Lib.hid hE2
  have hz2 := hE2.size
  clear C2 hBR hE2
  go_wp2_with fail
  refine C3.out.mono ?_
  rintro e W3 ⟨bb, rfl, hbb, hBB, hE3⟩
  have hE3 : Ext W2 W3 := hE3
  have C4 := rnewbook_any every most W3
  unfold RNewOut at C4
  simp only [if_pos (show 1 ≤ every ∧ 1 ≤ most from ⟨he, hm⟩)] at C4
  have C4 := Lib.hid C4
  have HBB := Lib.hid hBB
  have HE3 := Lib.hid hE3
  have hz3 := hE3.size
  clear C3 hBB hE3
  go_wp2_with fail
  refine C4.out.mono ?_
  rintro e W4 ⟨qb, rfl, hqb, hBQ, hE4⟩
  have hE4 : Ext W3 W4 := hE4
  have hEw4 := ((HE1.out.trans HE2.out).trans HE3.out).trans hE4
  have C5 := Lib.hid (alive9_any W4 (HT.out.below hEw4 hsz))
  have HBQ := Lib.hid hBQ
  have HE4 := Lib.hid hE4
  have HE3x := Lib.hid hE4
  have HEW4 := Lib.hid hEw4
  have hz4 := hE4.size
  clear C4 hBQ hE4 hEw4
  go_wp2_with fail
  refine C5.out.mono ?_
  rintro e W6 ⟨rfl, hE6⟩
  have hE6 : Ext W4 W6 := hE6
  have hz6 := hE6.size
  have hI0 : LoopI (fun x => w.heap.size ≤ x ∧ x < W1.heap.size) (fun x => W1.heap.size ≤ x ∧ x < W2.heap.size) W6 ba rb every most 0 W6 :=
    ⟨0, [], 0, [], ⟨⟨_, _, _, _, _, fun _ h => .inl h, fun _ h => .inl h, fun x h1 h2 => by omega, HBA.out.ext (((HE2.out.trans HE3.out).trans HE4.out).trans hE6), HBR.out.ext ((HE3.out.trans HE4.out).trans hE6)⟩, Chg.refl _ _⟩, Ring.start most hm, Nat.le_refl _⟩
  have HI0 := Lib.hid hI0
  have HE6 := Lib.hid hE6
  have HEW6 := Lib.hid (HEW4.out.trans hE6)
  clear C5 hE6 hI0
  go_wp2
  go_loopw [19] (fun i wr => ∃ k : Nat, k ≤ A.length ∧ i = .int .i64 k ∧ LoopI (fun x => w.heap.size ≤ x ∧ x < W1.heap.size) (fun x => W1.heap.size ≤ x ∧ x < W2.heap.size) W6 ba rb every most k wr) (fun i _ => A.length - (intOf i).toNat)
  case atStart => exact ⟨0, Nat.zero_le _, rfl, HI0.out⟩
  case round =>
    obtain ⟨k, hkA, rfl, la, R, first, L, hTw, hRG, hRk⟩ := hrel
    by_cases hk : k < A.length
    · obtain ⟨ob, oo, rfl, hob, c0, c1⟩ := HA.out k A[k] (List.getElem?_eq_getElem hk)
      have hzk := HZA.out A[k] (List.getElem_mem hk)
      generalize A[k] = en at *
      obtain ⟨z, v⟩ := en
      have hnote := hRG.note he z v hzk (every := every)
      have hLR := hRG.length
      have hlen := noteR_length every most la R first z v
      have hsame := hnote.1
      have hcz : ∀ (d : Nat → Bool) (w' : World), PG (fun x => w.heap.size ≤ x ∧ x < W1.heap.size) (fun x => W1.heap.size ≤ x ∧ x < W2.heap.size) W6 ba rb every most la R first L z v d w' → w'.cell? ⟨ob, oo + k * 2, none⟩ = some (.int .i64 z) ∧ w'.cell? ⟨ob, oo + k * 2 + 1, none⟩ = some (.int .u64 v) := fun d w' h => by
        have hb : Below w.heap.size w w' := HEW6.out.trans' (Chg.below h.chg (fun x hx => by rcases hx with hx | hx <;> omega) (by omega))
        exact ⟨(hb.cell (p := ⟨ob, oo + k * 2, none⟩) hob).trans c0, (hb.cell (p := ⟨ob, oo + k * 2 + 1, none⟩) hob).trans c1⟩
      have hG0 : PG (fun x => w.heap.size ≤ x ∧ x < W1.heap.size) (fun x => W1.heap.size ≤ x ∧ x < W2.heap.size) W6 ba rb every most la R first L z v (fun _ => false) wr.drew := by
        unfold PG
        simp only [Bool.false_eq_true, if_false]
        exact hTw.ext (Ext.drew _)
      have HTW := Lib.hid hTw
      have HNOTE := Lib.hid hnote
      have HCZ := Lib.hid hcz
      have HG0 := Lib.hid hG0
      have HRG := Lib.hid hRG
      have HLEN := Lib.hid hlen
      clear hTw hnote hcz hG0 hRG hlen
      go_wp2
      have hcz := HCZ.out
      have hRG := HRG.out
      refine wp_region_P (by kernel_rfl) (region_state_vals 197 (PG (fun x => w.heap.size ≤ x ∧ x < W1.heap.size) (fun x => W1.heap.size ≤ x ∧ x < W2.heap.size) W6 ba rb every most la R first L z v) HG0.out [.pointer (some ⟨ba, 0, none⟩), .slice (some ⟨ob, oo, none⟩) A.length cA, .int .i64 k, .pointer (some ⟨ob, oo + k * 2, none⟩), .pointer (some ⟨ob, oo + k * 2, none⟩), .int .i64 z, .slice (some ⟨ob, oo, none⟩) A.length cA, .int .i64 k, .pointer (some ⟨ob, oo + k * 2, none⟩), .pointer (some ⟨ob, oo + k * 2 + 1, none⟩), .int .u64 v, .bool (noteR every most la R first z v).1, .pointer (some ⟨rb, 0, none⟩), .slice (some ⟨ob, oo, none⟩) A.length cA, .int .i64 k, .pointer (some ⟨ob, oo + k * 2, none⟩), .pointer (some ⟨ob, oo + k * 2, none⟩), .int .i64 z, .slice (some ⟨ob, oo, none⟩) A.length cA, .int .i64 k, .pointer (some ⟨ob, oo + k * 2, none⟩), .pointer (some ⟨ob, oo + k * 2 + 1, none⟩), .int .u64 v, .bool (noteL every most la L z v).1, .bool false] rfl (by decide) rfl ?duties ?rest)
      case duties =>
        refine ⟨?_, ?_, ?_, ?_, ?_, ?_, ?_, ?_, ?_, ?_, ?_, ?_, ?_, ?_, ?_, ?_, ?_, ?_, ?_, ?_, ?_, ?_, ?_, ?_, ?_, trivial⟩
        · refine dutyS_ext (PG.ext (by decide) (by decide)) fun d a w' hG hF hA => ?_
          have x1 := hF.slot 11 _ (by decide) rfl
          exact wp_value (w' := w') (v := .pointer (some ⟨ba, 0, none⟩)) (by simp only [execOp, x1]; simp [go_sem]) ⟨_, rfl, rfl, Ext.refl _⟩
        · refine dutyS_ext (PG.ext (by decide) (by decide)) fun d a w' hG hF hA => ?_
          have x1 := hF.slot 2 _ (by decide) rfl
          exact wp_value (w' := w') (v := .slice (some ⟨ob, oo, none⟩) A.length cA) (by simp only [execOp, x1]; simp [go_sem]) ⟨_, rfl, rfl, Ext.refl _⟩
        · refine dutyS_ext (PG.ext (by decide) (by decide)) fun d a w' hG hF hA => ?_
          have x1 := hF.slot 19 _ (by decide) rfl
          exact wp_value (w' := w') (v := .int .i64 k) (by simp only [execOp, x1]; simp [go_sem]) ⟨_, rfl, rfl, Ext.refl _⟩
        · refine dutyS_ext (PG.ext (by decide) (by decide)) fun d a w' hG hF hA => ?_
          have x1 := hA.val 1 87 rfl rfl ⟨⟨1, .data⟩, by simp, rfl, rfl⟩ rfl
          have x2 := hA.val 2 88 rfl rfl ⟨⟨2, .data⟩, by simp, rfl, rfl⟩ rfl
          exact wp_value (w' := w') (v := .pointer (some ⟨ob, oo + k * 2, none⟩)) (by simp only [execOp, x1, x2]; simp [go_sem, hk]) ⟨_, rfl, rfl, Ext.refl _⟩
        · refine dutyS_ext (PG.ext (by decide) (by decide)) fun d a w' hG hF hA => ?_
          have x1 := hA.val 3 89 rfl rfl ⟨⟨3, .data⟩, by simp, rfl, rfl⟩ rfl
          exact wp_value (w' := w') (v := .pointer (some ⟨ob, oo + k * 2, none⟩)) (by simp only [execOp, x1]; simp [go_sem]) ⟨_, rfl, rfl, Ext.refl _⟩
        · refine dutyS_ext (PG.ext (by decide) (by decide)) fun d a w' hG hF hA => ?_
          have x1 := hA.val 4 90 rfl rfl ⟨⟨4, .data⟩, by simp, rfl, rfl⟩ rfl
          exact wp_value (ex_cell rfl _ _ x1 (hcz _ _ hG).1 rfl Tryd.underlying2) ⟨_, rfl, rfl, Ext.refl _⟩
        · refine dutyS_ext (PG.ext (by decide) (by decide)) fun d a w' hG hF hA => ?_
          have x1 := hF.slot 2 _ (by decide) rfl
          exact wp_value (w' := w') (v := .slice (some ⟨ob, oo, none⟩) A.length cA) (by simp only [execOp, x1]; simp [go_sem]) ⟨_, rfl, rfl, Ext.refl _⟩
        · refine dutyS_ext (PG.ext (by decide) (by decide)) fun d a w' hG hF hA => ?_
          have x1 := hF.slot 19 _ (by decide) rfl
          exact wp_value (w' := w') (v := .int .i64 k) (by simp only [execOp, x1]; simp [go_sem]) ⟨_, rfl, rfl, Ext.refl _⟩
        · refine dutyS_ext (PG.ext (by decide) (by decide)) fun d a w' hG hF hA => ?_
          have x1 := hA.val 6 92 rfl rfl ⟨⟨6, .data⟩, by simp, rfl, rfl⟩ rfl
          have x2 := hA.val 7 93 rfl rfl ⟨⟨7, .data⟩, by simp, rfl, rfl⟩ rfl
          exact wp_value (w' := w') (v := .pointer (some ⟨ob, oo + k * 2, none⟩)) (by simp only [execOp, x1, x2]; simp [go_sem, hk]) ⟨_, rfl, rfl, Ext.refl _⟩
        · refine dutyS_ext (PG.ext (by decide) (by decide)) fun d a w' hG hF hA => ?_
          have x1 := hA.val 8 94 rfl rfl ⟨⟨8, .data⟩, by simp, rfl, rfl⟩ rfl
          exact wp_value (w' := w') (v := .pointer (some ⟨ob, oo + k * 2 + 1, none⟩)) (by simp only [execOp, x1]; simp [go_sem]) ⟨_, rfl, rfl, Ext.refl _⟩
        · refine dutyS_ext (PG.ext (by decide) (by decide)) fun d a w' hG hF hA => ?_
          have x1 := hA.val 9 95 rfl rfl ⟨⟨9, .data⟩, by simp, rfl, rfl⟩ rfl
          exact wp_value (ex_cell rfl _ _ x1 (hcz _ _ hG).2 rfl Tryd.underlying49) ⟨_, rfl, rfl, Ext.refl _⟩
        · intro d a w' hdi _ _ hG hF hA
          have x1 := hA.val 0 86 rfl rfl ⟨⟨0, .data⟩, by simp, rfl, rfl⟩ rfl
          have x2 := hA.val 5 91 rfl rfl ⟨⟨5, .data⟩, by simp, rfl, rfl⟩ rfl
          have x3 := hA.val 10 96 rfl rfl ⟨⟨10, .data⟩, by simp, rfl, rfl⟩ rfl
          have hd : d 11 = false := hdi
          unfold PG at hG
          simp only [hd, Bool.false_eq_true, if_false] at hG
          refine wp_enter (ex_call rfl (enters_f Tryd.func25 (by kernel_rfl) rfl)) (by simp only [List.map_toArray, List.map_cons, List.map_nil, x1, x2, x3]; exact hG.noteA z v he hm hRG.fst hRG.len hmx (by omega)) ?_
          rintro e w4 ⟨rfl, h4⟩
          refine ⟨_, rfl, _, rfl, rfl, ?_⟩
          have e1 : (d 11 || (11 : Nat) == 11) = true := by simp
          have e2 : (d 23 || (23 : Nat) == 11) = d 23 := by simp
          show PG _ _ _ _ _ _ _ _ _ _ _ _ _ (fun k => d k || k == 11) w4
          unfold PG
          simp only [e1, e2, if_true]
          exact h4
        · refine dutyS_ext (PG.ext (by decide) (by decide)) fun d a w' hG hF hA => ?_
          have x1 := hF.slot 13 _ (by decide) rfl
          exact wp_value (w' := w') (v := .pointer (some ⟨rb, 0, none⟩)) (by simp only [execOp, x1]; simp [go_sem]) ⟨_, rfl, rfl, Ext.refl _⟩
        · refine dutyS_ext (PG.ext (by decide) (by decide)) fun d a w' hG hF hA => ?_
          have x1 := hF.slot 2 _ (by decide) rfl
          exact wp_value (w' := w') (v := .slice (some ⟨ob, oo, none⟩) A.length cA) (by simp only [execOp, x1]; simp [go_sem]) ⟨_, rfl, rfl, Ext.refl _⟩
        · refine dutyS_ext (PG.ext (by decide) (by decide)) fun d a w' hG hF hA => ?_
          have x1 := hF.slot 19 _ (by decide) rfl
          exact wp_value (w' := w') (v := .int .i64 k) (by simp only [execOp, x1]; simp [go_sem]) ⟨_, rfl, rfl, Ext.refl _⟩
        · refine dutyS_ext (PG.ext (by decide) (by decide)) fun d a w' hG hF hA => ?_
          have x1 := hA.val 13 99 rfl rfl ⟨⟨13, .data⟩, by simp, rfl, rfl⟩ rfl
          have x2 := hA.val 14 100 rfl rfl ⟨⟨14, .data⟩, by simp, rfl, rfl⟩ rfl
          exact wp_value (w' := w') (v := .pointer (some ⟨ob, oo + k * 2, none⟩)) (by simp only [execOp, x1, x2]; simp [go_sem, hk]) ⟨_, rfl, rfl, Ext.refl _⟩
        · refine dutyS_ext (PG.ext (by decide) (by decide)) fun d a w' hG hF hA => ?_
          have x1 := hA.val 15 101 rfl rfl ⟨⟨15, .data⟩, by simp, rfl, rfl⟩ rfl
          exact wp_value (w' := w') (v := .pointer (some ⟨ob, oo + k * 2, none⟩)) (by simp only [execOp, x1]; simp [go_sem]) ⟨_, rfl, rfl, Ext.refl _⟩
        · refine dutyS_ext (PG.ext (by decide) (by decide)) fun d a w' hG hF hA => ?_
          have x1 := hA.val 16 102 rfl rfl ⟨⟨16, .data⟩, by simp, rfl, rfl⟩ rfl
          exact wp_value (ex_cell rfl _ _ x1 (hcz _ _ hG).1 rfl Tryd.underlying2) ⟨_, rfl, rfl, Ext.refl _⟩
        · refine dutyS_ext (PG.ext (by decide) (by decide)) fun d a w' hG hF hA => ?_
          have x1 := hF.slot 2 _ (by decide) rfl
          exact wp_value (w' := w') (v := .slice (some ⟨ob, oo, none⟩) A.length cA) (by simp only [execOp, x1]; simp [go_sem]) ⟨_, rfl, rfl, Ext.refl _⟩
        · refine dutyS_ext (PG.ext (by decide) (by decide)) fun d a w' hG hF hA => ?_
          have x1 := hF.slot 19 _ (by decide) rfl
          exact wp_value (w' := w') (v := .int .i64 k) (by simp only [execOp, x1]; simp [go_sem]) ⟨_, rfl, rfl, Ext.refl _⟩
        · refine dutyS_ext (PG.ext (by decide) (by decide)) fun d a w' hG hF hA => ?_
          have x1 := hA.val 18 104 rfl rfl ⟨⟨18, .data⟩, by simp, rfl, rfl⟩ rfl
          have x2 := hA.val 19 105 rfl rfl ⟨⟨19, .data⟩, by simp, rfl, rfl⟩ rfl
          exact wp_value (w' := w') (v := .pointer (some ⟨ob, oo + k * 2, none⟩)) (by simp only [execOp, x1, x2]; simp [go_sem, hk]) ⟨_, rfl, rfl, Ext.refl _⟩
        · refine dutyS_ext (PG.ext (by decide) (by decide)) fun d a w' hG hF hA => ?_
          have x1 := hA.val 20 106 rfl rfl ⟨⟨20, .data⟩, by simp, rfl, rfl⟩ rfl
          exact wp_value (w' := w') (v := .pointer (some ⟨ob, oo + k * 2 + 1, none⟩)) (by simp only [execOp, x1]; simp [go_sem]) ⟨_, rfl, rfl, Ext.refl _⟩
        · refine dutyS_ext (PG.ext (by decide) (by decide)) fun d a w' hG hF hA => ?_
          have x1 := hA.val 21 107 rfl rfl ⟨⟨21, .data⟩, by simp, rfl, rfl⟩ rfl
          exact wp_value (ex_cell rfl _ _ x1 (hcz _ _ hG).2 rfl Tryd.underlying49) ⟨_, rfl, rfl, Ext.refl _⟩
        · intro d a w' hdi _ _ hG hF hA
          have x1 := hA.val 12 98 rfl rfl ⟨⟨12, .data⟩, by simp, rfl, rfl⟩ rfl
          have x2 := hA.val 17 103 rfl rfl ⟨⟨17, .data⟩, by simp, rfl, rfl⟩ rfl
          have x3 := hA.val 22 108 rfl rfl ⟨⟨22, .data⟩, by simp, rfl, rfl⟩ rfl
          have hd : d 23 = false := hdi
          unfold PG at hG
          simp only [hd, Bool.false_eq_true, if_false] at hG
          refine wp_enter (ex_call rfl (enters_f Tryd.func26 (by kernel_rfl) rfl)) (by simp only [List.map_toArray, List.map_cons, List.map_nil, x1, x2, x3]; exact hG.noteR z v he hm (by omega)) ?_
          rintro e w4 ⟨rfl, h4⟩
          refine ⟨_, rfl, _, rfl, rfl, ?_⟩
          have e1 : (d 23 || (23 : Nat) == 23) = true := by simp
          have e2 : (d 11 || (11 : Nat) == 23) = d 11 := by simp
          show PG _ _ _ _ _ _ _ _ _ _ _ _ _ (fun k => d k || k == 23) w4
          unfold PG
          simp only [e1, e2, if_true]
          exact h4
        · refine dutyS_ext (PG.ext (by decide) (by decide)) fun d a w' hG hF hA => ?_
          have x1 := hA.val 11 97 rfl rfl ⟨⟨11, .data⟩, by simp, rfl, rfl⟩ rfl
          have x2 := hA.val 23 109 rfl rfl ⟨⟨23, .data⟩, by simp, rfl, rfl⟩ rfl
          exact wp_value (w' := w') (v := .bool false) (by simp only [execOp, x1, x2]; simp [go_sem, hsame]) ⟨_, rfl, rfl, Ext.refl _⟩
      case rest =>
        intro d W8 hdn hG8
        have h11 := hdn 11 (by decide)
        have h23 := hdn 23 (by decide)
        unfold PG at hG8
        simp only [h11, h23, if_true] at hG8
        rw [← HNOTE.out.2.1] at hG8
        have hI8 : LoopI (fun x => w.heap.size ≤ x ∧ x < W1.heap.size) (fun x => W1.heap.size ≤ x ∧ x < W2.heap.size) W6 ba rb every most (k + 1) W8 := ⟨_, _, _, _, hG8, HNOTE.out.2.2, by have := HLEN.out; omega⟩
        have HI8 := Lib.hid hI8
        clear hG8 hI8 hcz hRG h11 h23 hdn
        simp only [filled, List.zip_cons_cons, List.zip_nil_left, List.foldl_cons, List.foldl_nil, Act.put, List.setIfInBounds_toArray, List.set_cons_succ, List.set_cons_zero, Exit.inBlock, Exit.then]
        rename_i hK
        refine hK _ _ ?_
        go_wp2
        go_roundw
        case rel => exact ⟨k + 1, by omega, by go_num, HI8.out⟩
        case measure => simp [intOf]; omega
    · obtain rfl : k = A.length := by omega
      have hRA : R.length ≤ A.length := hRk
      have hBB7 : BookAt (fun x => W2.heap.size ≤ x ∧ x < W3.heap.size) wr bb every most 0 [] 0 (.slice none 0 0) :=
        (HBB.out.ext ((HE3x.out).trans HE6.out)).keep (fun x hx => hTw.chg.same x (by omega) fun hs => by rcases hs with hs | hs <;> omega) hTw.chg.size
      have hBQ7 : RefAt (fun x => W3.heap.size ≤ x ∧ x < W4.heap.size) wr qb every most 0 [] none 0 :=
        (HBQ.out.ext HE6.out).keep (fun x hx => hTw.chg.same x (by omega) fun hs => by rcases hs with hs | hs <;> omega) hTw.chg.size
      have hb7 : Below w.heap.size w wr := HEW6.out.trans' (Chg.below hTw.chg (fun x hx => by rcases hx with hx | hx <;> omega) (by omega))
      have hz7 := hTw.chg.size
      obtain ⟨W7, hW7⟩ : ∃ W7, W7 = wr := ⟨_, rfl⟩
      rw [← hW7] at hTw hBB7 hBQ7 hb7 hz7 ⊢
      clear hW7
      have hI1 : LoopI (fun x => W2.heap.size ≤ x ∧ x < W3.heap.size) (fun x => W3.heap.size ≤ x ∧ x < W4.heap.size) W7 bb qb every most 0 W7 :=
        ⟨0, [], 0, [], ⟨⟨_, _, _, _, _, fun _ h => .inl h, fun _ h => .inl h, fun x h1 h2 => by omega, hBB7, hBQ7⟩, Chg.refl _ _⟩, Ring.start most hm, Nat.le_refl _⟩
      have HI1 := Lib.hid hI1
      have HTW1 := Lib.hid hTw
      have HRG1 := Lib.hid hRG
      have HB7 := Lib.hid hb7
      clear hI1 hTw hRG hb7 hBB7 hBQ7
      go_wp2
      go_loopw [20] (fun i wr => ∃ k : Nat, k ≤ B.length ∧ i = .int .i64 k ∧ LoopI (fun x => W2.heap.size ≤ x ∧ x < W3.heap.size) (fun x => W3.heap.size ≤ x ∧ x < W4.heap.size) W7 bb qb every most k wr) (fun i _ => B.length - (intOf i).toNat)
      case atStart => exact ⟨0, Nat.zero_le _, rfl, HI1.out⟩
      case round =>
        obtain ⟨k, hkB, rfl, la2, R2, f2, L2, hTw, hRG, hRk⟩ := hrel
        by_cases hk : k < B.length
        · obtain ⟨ob, oo, rfl, hob, c0, c1⟩ := HB.out k B[k] (List.getElem?_eq_getElem hk)
          have hzk := HZB.out B[k] (List.getElem_mem hk)
          generalize B[k] = en at *
          obtain ⟨z, v⟩ := en
          have hnote := hRG.note he z v hzk (every := every)
          have hLR := hRG.length
          have hlen := noteR_length every most la2 R2 f2 z v
          have hsame := hnote.1
          have hcz : ∀ (d : Nat → Bool) (w' : World), PG (fun x => W2.heap.size ≤ x ∧ x < W3.heap.size) (fun x => W3.heap.size ≤ x ∧ x < W4.heap.size) W7 bb qb every most la2 R2 f2 L2 z v d w' → w'.cell? ⟨ob, oo + k * 2, none⟩ = some (.int .i64 z) ∧ w'.cell? ⟨ob, oo + k * 2 + 1, none⟩ = some (.int .u64 v) := fun d w' h => by
            have hb : Below w.heap.size w w' := HB7.out.trans (Chg.below h.chg (fun x hx => by rcases hx with hx | hx <;> omega) (by omega))
            exact ⟨(hb.cell (p := ⟨ob, oo + k * 2, none⟩) hob).trans c0, (hb.cell (p := ⟨ob, oo + k * 2 + 1, none⟩) hob).trans c1⟩
          have hG0 : PG (fun x => W2.heap.size ≤ x ∧ x < W3.heap.size) (fun x => W3.heap.size ≤ x ∧ x < W4.heap.size) W7 bb qb every most la2 R2 f2 L2 z v (fun _ => false) wr.drew := by
            unfold PG
            simp only [Bool.false_eq_true, if_false]
            exact hTw.ext (Ext.drew _)
          have HTW := Lib.hid hTw
          have HNOTE := Lib.hid hnote
          have HCZ := Lib.hid hcz
          have HG0 := Lib.hid hG0
          have HRG := Lib.hid hRG
          have HLEN := Lib.hid hlen
          clear hTw hnote hcz hG0 hRG hlen
          go_wp2
          have hcz := HCZ.out
          have hRG := HRG.out
          refine wp_region_P (by kernel_rfl) (region_state_vals 197 (PG (fun x => W2.heap.size ≤ x ∧ x < W3.heap.size) (fun x => W3.heap.size ≤ x ∧ x < W4.heap.size) W7 bb qb every most la2 R2 f2 L2 z v) HG0.out [.pointer (some ⟨bb, 0, none⟩), .slice (some ⟨ob, oo, none⟩) B.length cB, .int .i64 k, .pointer (some ⟨ob, oo + k * 2, none⟩), .pointer (some ⟨ob, oo + k * 2, none⟩), .int .i64 z, .slice (some ⟨ob, oo, none⟩) B.length cB, .int .i64 k, .pointer (some ⟨ob, oo + k * 2, none⟩), .pointer (some ⟨ob, oo + k * 2 + 1, none⟩), .int .u64 v, .bool (noteR every most la2 R2 f2 z v).1, .pointer (some ⟨qb, 0, none⟩), .slice (some ⟨ob, oo, none⟩) B.length cB, .int .i64 k, .pointer (some ⟨ob, oo + k * 2, none⟩), .pointer (some ⟨ob, oo + k * 2, none⟩), .int .i64 z, .slice (some ⟨ob, oo, none⟩) B.length cB, .int .i64 k, .pointer (some ⟨ob, oo + k * 2, none⟩), .pointer (some ⟨ob, oo + k * 2 + 1, none⟩), .int .u64 v, .bool (noteL every most la2 L2 z v).1, .bool false] rfl (by decide) rfl ?duties ?rest)
          case duties =>
            refine ⟨?_, ?_, ?_, ?_, ?_, ?_, ?_, ?_, ?_, ?_, ?_, ?_, ?_, ?_, ?_, ?_, ?_, ?_, ?_, ?_, ?_, ?_, ?_, ?_, ?_, trivial⟩
            · refine dutyS_ext (PG.ext (by decide) (by decide)) fun d a w' hG hF hA => ?_
              have x1 := hF.slot 15 _ (by decide) rfl
              exact wp_value (w' := w') (v := .pointer (some ⟨bb, 0, none⟩)) (by simp only [execOp, x1]; simp [go_sem]) ⟨_, rfl, rfl, Ext.refl _⟩
            · refine dutyS_ext (PG.ext (by decide) (by decide)) fun d a w' hG hF hA => ?_
              have x1 := hF.slot 3 _ (by decide) rfl
              exact wp_value (w' := w') (v := .slice (some ⟨ob, oo, none⟩) B.length cB) (by simp only [execOp, x1]; simp [go_sem]) ⟨_, rfl, rfl, Ext.refl _⟩
            · refine dutyS_ext (PG.ext (by decide) (by decide)) fun d a w' hG hF hA => ?_
              have x1 := hF.slot 20 _ (by decide) rfl
              exact wp_value (w' := w') (v := .int .i64 k) (by simp only [execOp, x1]; simp [go_sem]) ⟨_, rfl, rfl, Ext.refl _⟩
            · refine dutyS_ext (PG.ext (by decide) (by decide)) fun d a w' hG hF hA => ?_
              have x1 := hA.val 1 118 rfl rfl ⟨⟨1, .data⟩, by simp, rfl, rfl⟩ rfl
              have x2 := hA.val 2 119 rfl rfl ⟨⟨2, .data⟩, by simp, rfl, rfl⟩ rfl
              exact wp_value (w' := w') (v := .pointer (some ⟨ob, oo + k * 2, none⟩)) (by simp only [execOp, x1, x2]; simp [go_sem, hk]) ⟨_, rfl, rfl, Ext.refl _⟩
            · refine dutyS_ext (PG.ext (by decide) (by decide)) fun d a w' hG hF hA => ?_
              have x1 := hA.val 3 120 rfl rfl ⟨⟨3, .data⟩, by simp, rfl, rfl⟩ rfl
              exact wp_value (w' := w') (v := .pointer (some ⟨ob, oo + k * 2, none⟩)) (by simp only [execOp, x1]; simp [go_sem]) ⟨_, rfl, rfl, Ext.refl _⟩
            · refine dutyS_ext (PG.ext (by decide) (by decide)) fun d a w' hG hF hA => ?_
              have x1 := hA.val 4 121 rfl rfl ⟨⟨4, .data⟩, by simp, rfl, rfl⟩ rfl
              exact wp_value (ex_cell rfl _ _ x1 (hcz _ _ hG).1 rfl Tryd.underlying2) ⟨_, rfl, rfl, Ext.refl _⟩
            · refine dutyS_ext (PG.ext (by decide) (by decide)) fun d a w' hG hF hA => ?_
              have x1 := hF.slot 3 _ (by decide) rfl
              exact wp_value (w' := w') (v := .slice (some ⟨ob, oo, none⟩) B.length cB) (by simp only [execOp, x1]; simp [go_sem]) ⟨_, rfl, rfl, Ext.refl _⟩
            · refine dutyS_ext (PG.ext (by decide) (by decide)) fun d a w' hG hF hA => ?_
              have x1 := hF.slot 20 _ (by decide) rfl
              exact wp_value (w' := w') (v := .int .i64 k) (by simp only [execOp, x1]; simp [go_sem]) ⟨_, rfl, rfl, Ext.refl _⟩
            · refine dutyS_ext (PG.ext (by decide) (by decide)) fun d a w' hG hF hA => ?_
              have x1 := hA.val 6 123 rfl rfl ⟨⟨6, .data⟩, by simp, rfl, rfl⟩ rfl
              have x2 := hA.val 7 124 rfl rfl ⟨⟨7, .data⟩, by simp, rfl, rfl⟩ rfl
              exact wp_value (w' := w') (v := .pointer (some ⟨ob, oo + k * 2, none⟩)) (by simp only [execOp, x1, x2]; simp [go_sem, hk]) ⟨_, rfl, rfl, Ext.refl _⟩
            · refine dutyS_ext (PG.ext (by decide) (by decide)) fun d a w' hG hF hA => ?_
              have x1 := hA.val 8 125 rfl rfl ⟨⟨8, .data⟩, by simp, rfl, rfl⟩ rfl
              exact wp_value (w' := w') (v := .pointer (some ⟨ob, oo + k * 2 + 1, none⟩)) (by simp only [execOp, x1]; simp [go_sem]) ⟨_, rfl, rfl, Ext.refl _⟩
            · refine dutyS_ext (PG.ext (by decide) (by decide)) fun d a w' hG hF hA => ?_
              have x1 := hA.val 9 126 rfl rfl ⟨⟨9, .data⟩, by simp, rfl, rfl⟩ rfl
              exact wp_value (ex_cell rfl _ _ x1 (hcz _ _ hG).2 rfl Tryd.underlying49) ⟨_, rfl, rfl, Ext.refl _⟩
            · intro d a w' hdi _ _ hG hF hA
              have x1 := hA.val 0 117 rfl rfl ⟨⟨0, .data⟩, by simp, rfl, rfl⟩ rfl
              have x2 := hA.val 5 122 rfl rfl ⟨⟨5, .data⟩, by simp, rfl, rfl⟩ rfl
              have x3 := hA.val 10 127 rfl rfl ⟨⟨10, .data⟩, by simp, rfl, rfl⟩ rfl
              have hd : d 11 = false := hdi
              unfold PG at hG
              simp only [hd, Bool.false_eq_true, if_false] at hG
              refine wp_enter (ex_call rfl (enters_f Tryd.func25 (by kernel_rfl) rfl)) (by simp only [List.map_toArray, List.map_cons, List.map_nil, x1, x2, x3]; exact hG.noteA z v he hm hRG.fst hRG.len hmx (by omega)) ?_
              rintro e w4 ⟨rfl, h4⟩
              refine ⟨_, rfl, _, rfl, rfl, ?_⟩
              have e1 : (d 11 || (11 : Nat) == 11) = true := by simp
              have e2 : (d 23 || (23 : Nat) == 11) = d 23 := by simp
              show PG _ _ _ _ _ _ _ _ _ _ _ _ _ (fun k => d k || k == 11) w4
              unfold PG
              simp only [e1, e2, if_true]
              exact h4
            · refine dutyS_ext (PG.ext (by decide) (by decide)) fun d a w' hG hF hA => ?_
              have x1 := hF.slot 17 _ (by decide) rfl
              exact wp_value (w' := w') (v := .pointer (some ⟨qb, 0, none⟩)) (by simp only [execOp, x1]; simp [go_sem]) ⟨_, rfl, rfl, Ext.refl _⟩
            · refine dutyS_ext (PG.ext (by decide) (by decide)) fun d a w' hG hF hA => ?_
              have x1 := hF.slot 3 _ (by decide) rfl
              exact wp_value (w' := w') (v := .slice (some ⟨ob, oo, none⟩) B.length cB) (by simp only [execOp, x1]; simp [go_sem]) ⟨_, rfl, rfl, Ext.refl _⟩
            · refine dutyS_ext (PG.ext (by decide) (by decide)) fun d a w' hG hF hA => ?_
              have x1 := hF.slot 20 _ (by decide) rfl
              exact wp_value (w' := w') (v := .int .i64 k) (by simp only [execOp, x1]; simp [go_sem]) ⟨_, rfl, rfl, Ext.refl _⟩
            · refine dutyS_ext (PG.ext (by decide) (by decide)) fun d a w' hG hF hA => ?_
              have x1 := hA.val 13 130 rfl rfl ⟨⟨13, .data⟩, by simp, rfl, rfl⟩ rfl
              have x2 := hA.val 14 131 rfl rfl ⟨⟨14, .data⟩, by simp, rfl, rfl⟩ rfl
              exact wp_value (w' := w') (v := .pointer (some ⟨ob, oo + k * 2, none⟩)) (by simp only [execOp, x1, x2]; simp [go_sem, hk]) ⟨_, rfl, rfl, Ext.refl _⟩
            · refine dutyS_ext (PG.ext (by decide) (by decide)) fun d a w' hG hF hA => ?_
              have x1 := hA.val 15 132 rfl rfl ⟨⟨15, .data⟩, by simp, rfl, rfl⟩ rfl
              exact wp_value (w' := w') (v := .pointer (some ⟨ob, oo + k * 2, none⟩)) (by simp only [execOp, x1]; simp [go_sem]) ⟨_, rfl, rfl, Ext.refl _⟩
            · refine dutyS_ext (PG.ext (by decide) (by decide)) fun d a w' hG hF hA => ?_
              have x1 := hA.val 16 133 rfl rfl ⟨⟨16, .data⟩, by simp, rfl, rfl⟩ rfl
              exact wp_value (ex_cell rfl _ _ x1 (hcz _ _ hG).1 rfl Tryd.underlying2) ⟨_, rfl, rfl, Ext.refl _⟩
            · refine dutyS_ext (PG.ext (by decide) (by decide)) fun d a w' hG hF hA => ?_
              have x1 := hF.slot 3 _ (by decide) rfl
              exact wp_value (w' := w') (v := .slice (some ⟨ob, oo, none⟩) B.length cB) (by simp only [execOp, x1]; simp [go_sem]) ⟨_, rfl, rfl, Ext.refl _⟩
            · refine dutyS_ext (PG.ext (by decide) (by decide)) fun d a w' hG hF hA => ?_
              have x1 := hF.slot 20 _ (by decide) rfl
              exact wp_value (w' := w') (v := .int .i64 k) (by simp only [execOp, x1]; simp [go_sem]) ⟨_, rfl, rfl, Ext.refl _⟩
            · refine dutyS_ext (PG.ext (by decide) (by decide)) fun d a w' hG hF hA => ?_
              have x1 := hA.val 18 135 rfl rfl ⟨⟨18, .data⟩, by simp, rfl, rfl⟩ rfl
              have x2 := hA.val 19 136 rfl rfl ⟨⟨19, .data⟩, by simp, rfl, rfl⟩ rfl
              exact wp_value (w' := w') (v := .pointer (some ⟨ob, oo + k * 2, none⟩)) (by simp only [execOp, x1, x2]; simp [go_sem, hk]) ⟨_, rfl, rfl, Ext.refl _⟩
            · refine dutyS_ext (PG.ext (by decide) (by decide)) fun d a w' hG hF hA => ?_
              have x1 := hA.val 20 137 rfl rfl ⟨⟨20, .data⟩, by simp, rfl, rfl⟩ rfl
              exact wp_value (w' := w') (v := .pointer (some ⟨ob, oo + k * 2 + 1, none⟩)) (by simp only [execOp, x1]; simp [go_sem]) ⟨_, rfl, rfl, Ext.refl _⟩
            · refine dutyS_ext (PG.ext (by decide) (by decide)) fun d a w' hG hF hA => ?_
              have x1 := hA.val 21 138 rfl rfl ⟨⟨21, .data⟩, by simp, rfl, rfl⟩ rfl
              exact wp_value (ex_cell rfl _ _ x1 (hcz _ _ hG).2 rfl Tryd.underlying49) ⟨_, rfl, rfl, Ext.refl _⟩
            · intro d a w' hdi _ _ hG hF hA
              have x1 := hA.val 12 129 rfl rfl ⟨⟨12, .data⟩, by simp, rfl, rfl⟩ rfl
              have x2 := hA.val 17 134 rfl rfl ⟨⟨17, .data⟩, by simp, rfl, rfl⟩ rfl
              have x3 := hA.val 22 139 rfl rfl ⟨⟨22, .data⟩, by simp, rfl, rfl⟩ rfl
              have hd : d 23 = false := hdi
              unfold PG at hG
              simp only [hd, Bool.false_eq_true, if_false] at hG
              refine wp_enter (ex_call rfl (enters_f Tryd.func26 (by kernel_rfl) rfl)) (by simp only [List.map_toArray, List.map_cons, List.map_nil, x1, x2, x3]; exact hG.noteR z v he hm (by omega)) ?_
              rintro e w4 ⟨rfl, h4⟩
              refine ⟨_, rfl, _, rfl, rfl, ?_⟩
              have e1 : (d 23 || (23 : Nat) == 23) = true := by simp
              have e2 : (d 11 || (11 : Nat) == 23) = d 11 := by simp
              show PG _ _ _ _ _ _ _ _ _ _ _ _ _ (fun k => d k || k == 23) w4
              unfold PG
              simp only [e1, e2, if_true]
              exact h4
            · refine dutyS_ext (PG.ext (by decide) (by decide)) fun d a w' hG hF hA => ?_
              have x1 := hA.val 11 128 rfl rfl ⟨⟨11, .data⟩, by simp, rfl, rfl⟩ rfl
              have x2 := hA.val 23 140 rfl rfl ⟨⟨23, .data⟩, by simp, rfl, rfl⟩ rfl
              exact wp_value (w' := w') (v := .bool false) (by simp only [execOp, x1, x2]; simp [go_sem, hsame]) ⟨_, rfl, rfl, Ext.refl _⟩
          case rest =>
            intro d W8 hdn hG8
            have h11 := hdn 11 (by decide)
            have h23 := hdn 23 (by decide)
            unfold PG at hG8
            simp only [h11, h23, if_true] at hG8
            rw [← HNOTE.out.2.1] at hG8
            have hI8 : LoopI (fun x => W2.heap.size ≤ x ∧ x < W3.heap.size) (fun x => W3.heap.size ≤ x ∧ x < W4.heap.size) W7 bb qb every most (k + 1) W8 := ⟨_, _, _, _, hG8, HNOTE.out.2.2, by have := HLEN.out; omega⟩
            have HI8 := Lib.hid hI8
            clear hG8 hI8 hcz hRG h11 h23 hdn
            simp only [filled, List.zip_cons_cons, List.zip_nil_left, List.foldl_cons, List.foldl_nil, Act.put, List.setIfInBounds_toArray, List.set_cons_succ, List.set_cons_zero, Exit.inBlock, Exit.then]
            rename_i hK
            refine hK _ _ ?_
            go_wp2
            go_roundw
            case rel => exact ⟨k + 1, by omega, by go_num, HI8.out⟩
            case measure => simp [intOf]; omega
        · obtain rfl : k = B.length := by omega
          have hRG1 := HRG1.out
          obtain ⟨ra, rc, rl, lc, f1, f2', f3, f4⟩ := HTW1.out.facts hTw.chg (fun x hx => by rcases hx with hx | hx <;> exact ⟨by omega, by omega, by omega⟩)
          obtain ⟨rb', rc', ql, qc, g1, g2, g3, g4⟩ := hTw.facts (Chg.refl (fun _ => False) wr) (fun x hx => hx.elim)
          have hbw : Below w.heap.size w wr := HB7.out.trans (Chg.below hTw.chg (fun x hx => by rcases hx with hx | hx <;> omega) (by omega))
          have hl1 := hRG1.length
          have hl2 := hRG.length
          have hat := atR_same hRG1.up hRG1.mem zat
          have hps := part_same hRG1.up hRG1.mem hRG.up hRG.mem
          have CA := bat_any wr ba ra rc R f1 f2' (by omega) zat
          unfold AtOut at CA
          rw [hat] at CA
          have HF1 := Lib.hid f1
          have HF2 := Lib.hid f2'
          have HF3 := Lib.hid f3
          have HF4 := Lib.hid f4
          have HG1 := Lib.hid g1
          have HG2 := Lib.hid g2
          have HG3 := Lib.hid g3
          have HG4 := Lib.hid g4
          have HBW := Lib.hid hbw
          have HPS := Lib.hid hps
          have HL1 := Lib.hid hl1
          have hR1 : R.length ≤ A.length := hRA
          have hR2 : R2.length ≤ B.length := by omega
          have CA := Lib.hid CA
          clear f1 f2' f3 f4 g1 g2 g3 g4 hbw hps hTw hRG hRG1 hat
          go_wp2_with fail
          refine CA.out.mono ?_
          rintro e X1 ⟨rfl, hE1⟩
          have hE1 : Ext wr X1 := hE1
          have hx3 := (hE1.cell (p := ⟨rb, 3, none⟩) (World.block_lt_of_cell? _ _ HF3.out)).trans HF3.out
          have CR := Lib.hid (rat_any X1 rb rl lc L hx3 (HF4.out.ext hE1) (by omega) zat)
          have CP := part_any X1 ba bb ra rb' rc rc' R R2 ((hE1.cell (p := ⟨ba, 3, none⟩) (World.block_lt_of_cell? _ _ HF1.out)).trans HF1.out) ((hE1.cell (p := ⟨bb, 3, none⟩) (World.block_lt_of_cell? _ _ HG1.out)).trans HG1.out) (HF2.out.ext hE1) (HG2.out.ext hE1) (by omega) (by omega)
          rw [HPS.out] at CP
          have CP := Lib.hid CP
          have HX1 := Lib.hid hE1
          clear CA hE1 hx3
          go_wp2_with fail
          refine CR.out.mono ?_
          rintro e X2 ⟨rfl, rfl⟩
          clear CR
          go_wp2_with fail
          refine CP.out.mono ?_
          rintro e X2 ⟨rfl, hE2⟩
          have hE2 : Ext X1 X2 := hE2
          have hEx := HX1.out.trans hE2
          have hx3 := (hEx.cell (p := ⟨rb, 3, none⟩) (World.block_lt_of_cell? _ _ HF3.out)).trans HF3.out
          have hq3 := (hEx.cell (p := ⟨qb, 3, none⟩) (World.block_lt_of_cell? _ _ HG3.out)).trans HG3.out
          have CQ := Lib.hid (rpart_any X2 rb qb rl ql lc qc L L2 hx3 hq3 (HF4.out.ext hEx) (HG4.out.ext hEx) (by omega) (by omega))
          have CL := blen_row X2 ba ra R.length rc ((hEx.cell (p := ⟨ba, 3, none⟩) (World.block_lt_of_cell? _ _ HF1.out)).trans HF1.out)
          rw [← HL1.out] at CL
          have CL := Lib.hid CL
          have HBX := Lib.hid (HBW.out.trans (hEx.mono HBW.out.size))
          clear CP hE2 hEx hq3
          generalize firstPart L L2 = pr at *
          generalize atR L zat = av at *
          go_wp2_with fail
          refine CQ.out.mono ?_
          rintro e X3 ⟨rfl, rfl⟩
          clear CQ
          go_wp2_with fail
          refine CL.out.mono ?_
          rintro e X3 ⟨rfl, rfl⟩
          clear CL
          go_wp2
          go_ret
          exact ⟨by simp, HBX.out⟩
end Go.Proofs.YtfgjbcejpjcpeaaDoor
namespace Go.Proofs.YtfgjbcejpjcpeaaDoor
open Go.ChangeShapes Go.WideShapes Go.ChangeAt Go.RowKit Go.Deep
set_option maxHeartbeats 2000000
set_option maxRecDepth 100000

theorem Tryd.bytes_note : Tryd.prog.bytesOf 61 = 16 := by kernel_rfl
theorem Tryd.cells_note : Tryd.prog.cellsOf 61 = 2 := by kernel_rfl
theorem Tryd.cells_u64' : Tryd.prog.cellsOf 49 = 1 := by kernel_rfl

theorem wf_i64_le {z : Int} (h : (Lit.int .i64 z).wf = true) : z ≤ 9223372036854775807 := by
  have e1 : IntKind.i64.min = -9223372036854775808 := rfl
  have e2 : IntKind.i64.max = 9223372036854775807 := rfl
  have : -9223372036854775808 ≤ z ∧ z ≤ 9223372036854775807 := by simpa [Lit.wf, e1, e2] using h
  exact this.2

section
variable {H : Type} {enc : TypeId × Value → H} {w : World} {fuel : Nat}

theorem open_notes {v : Value} {x : DataW H × List MemPlace} (h : DataW.trod enc Tryd.prog w 0 (fun _ => true) true fuel 52 [v] = some x) (hz : Light 52 x.1) :
    ∃ (l : List (Int × Int)) (a : Option Addr) (cap : Nat), v = .slice a l.length cap ∧ l.length * 16 ≤ 140737488355328 ∧ (∀ e ∈ l, e.1 ≤ 9223372036854775807) ∧ NtAt w.heap.size w a l := by
  rcases open_slice Tryd.underlying52 h with ⟨hcs, rfl⟩ | ⟨a, len, cap, m, n, D, Pl, hcs, _, hl, hm, hmm, rfl, hx⟩
  · simp only [List.cons.injEq, and_true] at hcs
    subst hcs
    exact ⟨[], none, 0, rfl, by simp, by simp, fun i n h => by simp at h⟩
  · simp only [List.cons.injEq, and_true] at hcs
    subst hcs
    simp only [if_true] at hmm
    subst hmm
    have hw := light_len Tryd.underlying52 hz
    rw [Tryd.bytes_note] at hw
    simp only [List.length_map, List.length_range] at hw
    obtain ⟨X, hX⟩ := choose_lt (n := len) (p := fun i (e : Int × Int) => w.cell? ((a.add (i * 2)).add 0) = some (.int .i64 e.1) ∧ w.cell? ((a.add (i * 2)).add 1) = some (.int .u64 e.2) ∧ e.1 ≤ 9223372036854775807) fun i hi => by
      obtain ⟨cs', h1, h2⟩ := hx i (by omega)
      obtain ⟨y0, y1, m', _, hl2, g0, g1⟩ := trod_struct2 Tryd.underlying61 h2
      rw [Tryd.cells_note] at hl2 h1
      match cs', hl2, h1, g0, g1 with
      | [c0, c1], _, h1, g0, g1 =>
        rw [Tryd.cells_i64] at g0
        rw [Tryd.cells_u64'] at g1
        simp only [List.drop_succ_cons, List.drop_zero, List.take_succ_cons, List.take_zero] at g0 g1
        obtain ⟨z0, e0, _, w0⟩ := DataW.trod_int Tryd.underlying2 g0
        obtain ⟨z1, e1, _, _⟩ := DataW.trod_int Tryd.underlying49 g1
        simp only [List.cons.injEq, and_true] at e0 e1
        subst e0; subst e1
        obtain ⟨_, _, h3⟩ := World.cells?_some h1
        exact ⟨(z0, z1), by rw [h3 0 (by omega)]; rfl, by rw [h3 1 (by omega)]; rfl, wf_i64_le w0⟩
    refine ⟨(List.range len).map X, some a, m, by simp, by simp; omega, fun x hx' => ?_, fun j n hj => ?_⟩
    · obtain ⟨i, hi, rfl⟩ := List.mem_map.1 hx'
      exact (hX i (List.mem_range.1 hi)).2.2
    · simp only [List.getElem?_map] at hj
      by_cases hi : j < len
      · rw [List.getElem?_range hi] at hj
        simp only [Option.map_some, Option.some.injEq] at hj
        subst hj
        obtain ⟨h0, h1, _⟩ := hX j hi
        have hc0 := (hX 0 (by omega)).1
        have hsp := World.cell?_spot hc0
        have hlt := World.block_lt_of_cell? _ _ hc0
        obtain ⟨b, off, sp⟩ := a
        obtain rfl : sp = none := by simpa [Addr.add] using hsp
        rw [add_plain, add_plain] at h0 h1
        exact ⟨b, off, rfl, by simpa [Addr.add] using hlt, by simpa using h0, h1⟩
      · rw [List.getElem?_eq_none (by simp; omega)] at hj
        simp at hj

theorem trodAll_five' {P : Program} {base : Nat} {spare : Nat → Bool} {held : Bool} {t0 t1 t2 t3 t4 : TypeId} {args : Array Value} {ds : List (DataW H)} {ps : List MemPlace} (h : DataW.TrodAll enc P w base spare held [t0, t1, t2, t3, t4] args.toList ds ps) :
    ∃ v0 v1 v2 v3 v4 d0 d1 d2 d3 d4 p0 p1 p2 p3 p4, args = #[v0, v1, v2, v3, v4] ∧ ds = [d0, d1, d2, d3, d4] ∧ ps = p0 ++ (p1 ++ (p2 ++ (p3 ++ p4))) ∧ DataW.Trod enc P w base spare held t0 v0 d0 p0 ∧ DataW.Trod enc P w base spare held t1 v1 d1 p1 ∧ DataW.Trod enc P w base spare held t2 v2 d2 p2 ∧ DataW.Trod enc P w base spare held t3 v3 d3 p3 ∧ DataW.Trod enc P w base spare held t4 v4 d4 p4 := by
  obtain ⟨v0, s0, d0, ds0, p0, q0, e0, rfl, rfl, h0, r0⟩ := trodAll_cons h
  obtain ⟨v1, s1, d1, ds1, p1, q1, rfl, rfl, rfl, h1, r1⟩ := trodAll_cons r0
  obtain ⟨v2, s2, d2, ds2, p2, q2, rfl, rfl, rfl, h2, r2⟩ := trodAll_cons r1
  obtain ⟨v3, s3, d3, ds3, p3, q3, rfl, rfl, rfl, h3, r3⟩ := trodAll_cons r2
  obtain ⟨v4, s4, d4, ds4, p4, q4, rfl, rfl, rfl, h4, r4⟩ := trodAll_cons r3
  obtain ⟨rfl, rfl, rfl⟩ := trodAll_nil r4
  exact ⟨v0, v1, v2, v3, v4, d0, d1, d2, d3, d4, p0, p1, p2, p3, p4, by cases args; simp_all, rfl, by simp, h0, h1, h2, h3, h4⟩
theorem trodAll_mk5' {P : Program} {base : Nat} {spare : Nat → Bool} {held : Bool} {t0 t1 t2 t3 t4 : TypeId} {v0 v1 v2 v3 v4 : Value} {d0 d1 d2 d3 d4 : DataW H} {p0 p1 p2 p3 p4 : List MemPlace} (h0 : DataW.Trod enc P w base spare held t0 v0 d0 p0) (h1 : DataW.Trod enc P w base spare held t1 v1 d1 p1) (h2 : DataW.Trod enc P w base spare held t2 v2 d2 p2) (h3 : DataW.Trod enc P w base spare held t3 v3 d3 p3) (h4 : DataW.Trod enc P w base spare held t4 v4 d4 p4) :
    DataW.TrodAll enc P w base spare held [t0, t1, t2, t3, t4] [v0, v1, v2, v3, v4] [d0, d1, d2, d3, d4] (p0 ++ (p1 ++ (p2 ++ (p3 ++ p4)))) :=
  ⟨p0, _, h0, ⟨p1, _, h1, ⟨p2, _, h2, trodAll_mk2 h3 h4, rfl⟩, rfl⟩, rfl⟩
end
end Go.Proofs.YtfgjbcejpjcpeaaDoor
