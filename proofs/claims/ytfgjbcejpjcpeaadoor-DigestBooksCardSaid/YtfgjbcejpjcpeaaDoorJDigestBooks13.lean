/- The law DigestBooks, walked where no book is made. -/
import Derived.Test.YtfgjbcejpjcpeaaDoorJDigestBooks12
namespace Go.Proofs.YtfgjbcejpjcpeaaDoor
open Go.RowKit
set_option maxHeartbeats 8000000
set_option maxRecDepth 100000

theorem books_none (every most : Int) (A B : List (Int × Int)) (aA aB : Option Addr) (cA cB : Nat) (zat : Int) (w : World) (hT : Tabs w) (hA : NtAt w.heap.size w aA A) (hB : NtAt w.heap.size w aB B) (hlA : A.length * 16 ≤ 140737488355328) (hlB : B.length * 16 ≤ 140737488355328)
    (hn : ¬ (1 ≤ every ∧ 1 ≤ most)) :
    Calls Tryd.prog 6 #[.int .i64 every, .int .i64 most, .slice aA A.length cA, .slice aB B.length cB, .int .i64 zat] w fun e w' => e = .returned (.bool true) ∧ Below w.heap.size w w' := by
  have hsz := hT.size
  have C1 := newbook_any every most w
  have C2 := rnewbook_any every most w
  unfold NewBookOut at C1
  unfold RNewOut at C2
  simp only [if_neg hn] at C1 C2
  have C1 := Lib.hid C1
  have C2 := Lib.hid C2
  have C5 := Lib.hid (alive9_any w hT)
  have HA := Lib.hid hA
  have HB := Lib.hid hB
  clear hT hA hB hn
  go_enter Tryd.func6, Tryd.ntmps6
  go_wp2_with fail
  refine C1.out.mono ?_
  rintro e W1 ⟨rfl, rfl⟩
  go_wp2_with fail
  refine C2.out.mono ?_
  rintro e W1 ⟨rfl, rfl⟩
  go_wp2_with fail
  refine C1.out.mono ?_
  rintro e W1 ⟨rfl, rfl⟩
  go_wp2_with fail
  refine C2.out.mono ?_
  rintro e W1 ⟨rfl, rfl⟩
  clear C1 C2
  go_wp2_with fail
  refine C5.out.mono ?_
  rintro e W6 ⟨rfl, hE6⟩
  have hE6 : Ext w W6 := hE6
  have HEW6 := Lib.hid hE6
  clear C5 hE6
  go_wp2
  go_loopw [19] (fun i wr => ∃ k : Nat, k ≤ A.length ∧ i = .int .i64 k ∧ Ext W6 wr) (fun i _ => A.length - (intOf i).toNat)
  case atStart => exact ⟨0, Nat.zero_le _, rfl, Ext.refl _⟩
  case round =>
    obtain ⟨k, hk0, rfl, hE⟩ := hrel
    by_cases hk : k < A.length
    · obtain ⟨ob, oo, rfl, hob, c0', c1'⟩ := HA.out k A[k] (List.getElem?_eq_getElem hk)
      generalize A[k] = en at *
      obtain ⟨z, v⟩ := en
      have hb := HEW6.out.trans hE
      have C0 := Lib.hid (show wr.cell? ⟨ob, oo + k * 2, none⟩ = some (.int .i64 z) from (hb.cell (p := ⟨ob, oo + k * 2, none⟩) hob).trans c0')
      have C1 := Lib.hid (show wr.cell? ⟨ob, oo + k * 2 + 1, none⟩ = some (.int .u64 v) from (hb.cell (p := ⟨ob, oo + k * 2 + 1, none⟩) hob).trans c1')
      have HE := Lib.hid hE
      clear c0' c1' hb hE
      go_wp2
      have c0 := C0.out
      have c1 := C1.out
      refine wp_region_P (by kernel_rfl) (region_vals 197 [.pointer none, .slice (some ⟨ob, oo, none⟩) A.length cA, .int .i64 k, .pointer (some ⟨ob, oo + k * 2, none⟩), .pointer (some ⟨ob, oo + k * 2, none⟩), .int .i64 z, .slice (some ⟨ob, oo, none⟩) A.length cA, .int .i64 k, .pointer (some ⟨ob, oo + k * 2, none⟩), .pointer (some ⟨ob, oo + k * 2 + 1, none⟩), .int .u64 v, .bool false, .pointer none, .slice (some ⟨ob, oo, none⟩) A.length cA, .int .i64 k, .pointer (some ⟨ob, oo + k * 2, none⟩), .pointer (some ⟨ob, oo + k * 2, none⟩), .int .i64 z, .slice (some ⟨ob, oo, none⟩) A.length cA, .int .i64 k, .pointer (some ⟨ob, oo + k * 2, none⟩), .pointer (some ⟨ob, oo + k * 2 + 1, none⟩), .int .u64 v, .bool false, .bool false] rfl (by decide) rfl ?duties ?rest)
      case duties =>
        refine ⟨?_, ?_, ?_, ?_, ?_, ?_, ?_, ?_, ?_, ?_, ?_, ?_, ?_, ?_, ?_, ?_, ?_, ?_, ?_, ?_, ?_, ?_, ?_, ?_, ?_, trivial⟩
        · refine duty_free rfl fun a w' hE hF hA => ?_
          have x1 := hF.slot 11 _ (by decide) rfl
          exact wp_value (w' := w') (v := .pointer none) (by simp only [execOp, x1]; simp [go_sem]) ⟨_, rfl, rfl, Ext.refl _⟩
        · refine duty_free rfl fun a w' hE hF hA => ?_
          have x1 := hF.slot 2 _ (by decide) rfl
          exact wp_value (w' := w') (v := .slice (some ⟨ob, oo, none⟩) A.length cA) (by simp only [execOp, x1]; simp [go_sem]) ⟨_, rfl, rfl, Ext.refl _⟩
        · refine duty_free rfl fun a w' hE hF hA => ?_
          have x1 := hF.slot 19 _ (by decide) rfl
          exact wp_value (w' := w') (v := .int .i64 k) (by simp only [execOp, x1]; simp [go_sem]) ⟨_, rfl, rfl, Ext.refl _⟩
        · refine duty_free rfl fun a w' hE hF hA => ?_
          have x1 := hA.val 1 87 rfl rfl ⟨⟨1, .data⟩, by simp, rfl, rfl⟩ rfl
          have x2 := hA.val 2 88 rfl rfl ⟨⟨2, .data⟩, by simp, rfl, rfl⟩ rfl
          exact wp_value (w' := w') (v := .pointer (some ⟨ob, oo + k * 2, none⟩)) (by simp only [execOp, x1, x2]; simp [go_sem, hk]) ⟨_, rfl, rfl, Ext.refl _⟩
        · refine duty_free rfl fun a w' hE hF hA => ?_
          have x1 := hA.val 3 89 rfl rfl ⟨⟨3, .data⟩, by simp, rfl, rfl⟩ rfl
          exact wp_value (w' := w') (v := .pointer (some ⟨ob, oo + k * 2, none⟩)) (by simp only [execOp, x1]; simp [go_sem]) ⟨_, rfl, rfl, Ext.refl _⟩
        · refine duty_free rfl fun a w' hE hF hA => ?_
          have x1 := hA.val 4 90 rfl rfl ⟨⟨4, .data⟩, by simp, rfl, rfl⟩ rfl
          exact wp_value (ex_cell rfl _ _ x1 ((hE.cell (World.block_lt_of_cell? _ _ c0)).trans c0) rfl Tryd.underlying2) ⟨_, rfl, rfl, Ext.refl _⟩
        · refine duty_free rfl fun a w' hE hF hA => ?_
          have x1 := hF.slot 2 _ (by decide) rfl
          exact wp_value (w' := w') (v := .slice (some ⟨ob, oo, none⟩) A.length cA) (by simp only [execOp, x1]; simp [go_sem]) ⟨_, rfl, rfl, Ext.refl _⟩
        · refine duty_free rfl fun a w' hE hF hA => ?_
          have x1 := hF.slot 19 _ (by decide) rfl
          exact wp_value (w' := w') (v := .int .i64 k) (by simp only [execOp, x1]; simp [go_sem]) ⟨_, rfl, rfl, Ext.refl _⟩
        · refine duty_free rfl fun a w' hE hF hA => ?_
          have x1 := hA.val 6 92 rfl rfl ⟨⟨6, .data⟩, by simp, rfl, rfl⟩ rfl
          have x2 := hA.val 7 93 rfl rfl ⟨⟨7, .data⟩, by simp, rfl, rfl⟩ rfl
          exact wp_value (w' := w') (v := .pointer (some ⟨ob, oo + k * 2, none⟩)) (by simp only [execOp, x1, x2]; simp [go_sem, hk]) ⟨_, rfl, rfl, Ext.refl _⟩
        · refine duty_free rfl fun a w' hE hF hA => ?_
          have x1 := hA.val 8 94 rfl rfl ⟨⟨8, .data⟩, by simp, rfl, rfl⟩ rfl
          exact wp_value (w' := w') (v := .pointer (some ⟨ob, oo + k * 2 + 1, none⟩)) (by simp only [execOp, x1]; simp [go_sem]) ⟨_, rfl, rfl, Ext.refl _⟩
        · refine duty_free rfl fun a w' hE hF hA => ?_
          have x1 := hA.val 9 95 rfl rfl ⟨⟨9, .data⟩, by simp, rfl, rfl⟩ rfl
          exact wp_value (ex_cell rfl _ _ x1 ((hE.cell (World.block_lt_of_cell? _ _ c1)).trans c1) rfl Tryd.underlying49) ⟨_, rfl, rfl, Ext.refl _⟩
        · refine duty_free rfl fun a w' hE hF hA => ?_
          have x1 := hA.val 0 86 rfl rfl ⟨⟨0, .data⟩, by simp, rfl, rfl⟩ rfl
          have x2 := hA.val 5 91 rfl rfl ⟨⟨5, .data⟩, by simp, rfl, rfl⟩ rfl
          have x3 := hA.val 10 96 rfl rfl ⟨⟨10, .data⟩, by simp, rfl, rfl⟩ rfl
          refine wp_enter (ex_call rfl (enters_f Tryd.func25 (by kernel_rfl) rfl)) (by simp only [List.map_toArray, List.map_cons, List.map_nil, x1, x2, x3]; exact note_nil z v w') ?_; rintro e w4 ⟨rfl, rfl⟩; exact ⟨_, rfl, _, rfl, rfl, Ext.refl _⟩
        · refine duty_free rfl fun a w' hE hF hA => ?_
          have x1 := hF.slot 13 _ (by decide) rfl
          exact wp_value (w' := w') (v := .pointer none) (by simp only [execOp, x1]; simp [go_sem]) ⟨_, rfl, rfl, Ext.refl _⟩
        · refine duty_free rfl fun a w' hE hF hA => ?_
          have x1 := hF.slot 2 _ (by decide) rfl
          exact wp_value (w' := w') (v := .slice (some ⟨ob, oo, none⟩) A.length cA) (by simp only [execOp, x1]; simp [go_sem]) ⟨_, rfl, rfl, Ext.refl _⟩
        · refine duty_free rfl fun a w' hE hF hA => ?_
          have x1 := hF.slot 19 _ (by decide) rfl
          exact wp_value (w' := w') (v := .int .i64 k) (by simp only [execOp, x1]; simp [go_sem]) ⟨_, rfl, rfl, Ext.refl _⟩
        · refine duty_free rfl fun a w' hE hF hA => ?_
          have x1 := hA.val 13 99 rfl rfl ⟨⟨13, .data⟩, by simp, rfl, rfl⟩ rfl
          have x2 := hA.val 14 100 rfl rfl ⟨⟨14, .data⟩, by simp, rfl, rfl⟩ rfl
          exact wp_value (w' := w') (v := .pointer (some ⟨ob, oo + k * 2, none⟩)) (by simp only [execOp, x1, x2]; simp [go_sem, hk]) ⟨_, rfl, rfl, Ext.refl _⟩
        · refine duty_free rfl fun a w' hE hF hA => ?_
          have x1 := hA.val 15 101 rfl rfl ⟨⟨15, .data⟩, by simp, rfl, rfl⟩ rfl
          exact wp_value (w' := w') (v := .pointer (some ⟨ob, oo + k * 2, none⟩)) (by simp only [execOp, x1]; simp [go_sem]) ⟨_, rfl, rfl, Ext.refl _⟩
        · refine duty_free rfl fun a w' hE hF hA => ?_
          have x1 := hA.val 16 102 rfl rfl ⟨⟨16, .data⟩, by simp, rfl, rfl⟩ rfl
          exact wp_value (ex_cell rfl _ _ x1 ((hE.cell (World.block_lt_of_cell? _ _ c0)).trans c0) rfl Tryd.underlying2) ⟨_, rfl, rfl, Ext.refl _⟩
        · refine duty_free rfl fun a w' hE hF hA => ?_
          have x1 := hF.slot 2 _ (by decide) rfl
          exact wp_value (w' := w') (v := .slice (some ⟨ob, oo, none⟩) A.length cA) (by simp only [execOp, x1]; simp [go_sem]) ⟨_, rfl, rfl, Ext.refl _⟩
        · refine duty_free rfl fun a w' hE hF hA => ?_
          have x1 := hF.slot 19 _ (by decide) rfl
          exact wp_value (w' := w') (v := .int .i64 k) (by simp only [execOp, x1]; simp [go_sem]) ⟨_, rfl, rfl, Ext.refl _⟩
        · refine duty_free rfl fun a w' hE hF hA => ?_
          have x1 := hA.val 18 104 rfl rfl ⟨⟨18, .data⟩, by simp, rfl, rfl⟩ rfl
          have x2 := hA.val 19 105 rfl rfl ⟨⟨19, .data⟩, by simp, rfl, rfl⟩ rfl
          exact wp_value (w' := w') (v := .pointer (some ⟨ob, oo + k * 2, none⟩)) (by simp only [execOp, x1, x2]; simp [go_sem, hk]) ⟨_, rfl, rfl, Ext.refl _⟩
        · refine duty_free rfl fun a w' hE hF hA => ?_
          have x1 := hA.val 20 106 rfl rfl ⟨⟨20, .data⟩, by simp, rfl, rfl⟩ rfl
          exact wp_value (w' := w') (v := .pointer (some ⟨ob, oo + k * 2 + 1, none⟩)) (by simp only [execOp, x1]; simp [go_sem]) ⟨_, rfl, rfl, Ext.refl _⟩
        · refine duty_free rfl fun a w' hE hF hA => ?_
          have x1 := hA.val 21 107 rfl rfl ⟨⟨21, .data⟩, by simp, rfl, rfl⟩ rfl
          exact wp_value (ex_cell rfl _ _ x1 ((hE.cell (World.block_lt_of_cell? _ _ c1)).trans c1) rfl Tryd.underlying49) ⟨_, rfl, rfl, Ext.refl _⟩
        · refine duty_free rfl fun a w' hE hF hA => ?_
          have x1 := hA.val 12 98 rfl rfl ⟨⟨12, .data⟩, by simp, rfl, rfl⟩ rfl
          have x2 := hA.val 17 103 rfl rfl ⟨⟨17, .data⟩, by simp, rfl, rfl⟩ rfl
          have x3 := hA.val 22 108 rfl rfl ⟨⟨22, .data⟩, by simp, rfl, rfl⟩ rfl
          refine wp_enter (ex_call rfl (enters_f Tryd.func26 (by kernel_rfl) rfl)) (by simp only [List.map_toArray, List.map_cons, List.map_nil, x1, x2, x3]; exact rnote_nil z v w') ?_; rintro e w4 ⟨rfl, rfl⟩; exact ⟨_, rfl, _, rfl, rfl, Ext.refl _⟩
        · refine duty_free rfl fun a w' hE hF hA => ?_
          have x1 := hA.val 11 97 rfl rfl ⟨⟨11, .data⟩, by simp, rfl, rfl⟩ rfl
          have x2 := hA.val 23 109 rfl rfl ⟨⟨23, .data⟩, by simp, rfl, rfl⟩ rfl
          exact wp_value (w' := w') (v := .bool false) (by simp only [execOp, x1, x2]; simp [go_sem]) ⟨_, rfl, rfl, Ext.refl _⟩
      case rest =>
        intro W8 hE8
        have HE8 := Lib.hid (HE.out.trans hE8)
        clear c0 c1 C0 C1 hE8
        simp only [filled, List.zip_cons_cons, List.zip_nil_left, List.foldl_cons, List.foldl_nil, Act.put, List.setIfInBounds_toArray, List.set_cons_succ, List.set_cons_zero, Exit.inBlock, Exit.then]
        rename_i hK
        refine hK _ _ ?_
        go_wp2
        go_roundw
        case rel => exact ⟨k + 1, by omega, by go_num, HE8.out⟩
        case measure => simp [intOf]; omega
    · obtain rfl : k = A.length := by omega
      have HE := Lib.hid hE
      clear hE
      go_wp2
      go_loopw [20] (fun i wr => ∃ k : Nat, k ≤ B.length ∧ i = .int .i64 k ∧ Ext W6 wr) (fun i _ => B.length - (intOf i).toNat)
      case atStart => exact ⟨0, Nat.zero_le _, rfl, HE.out⟩
      case round =>
        clear HE
        obtain ⟨k, hk0, rfl, hE⟩ := hrel
        by_cases hk : k < B.length
        · obtain ⟨ob, oo, rfl, hob, c0', c1'⟩ := HB.out k B[k] (List.getElem?_eq_getElem hk)
          generalize B[k] = en at *
          obtain ⟨z, v⟩ := en
          have hb := HEW6.out.trans hE
          have C0 := Lib.hid (show wr.cell? ⟨ob, oo + k * 2, none⟩ = some (.int .i64 z) from (hb.cell (p := ⟨ob, oo + k * 2, none⟩) hob).trans c0')
          have C1 := Lib.hid (show wr.cell? ⟨ob, oo + k * 2 + 1, none⟩ = some (.int .u64 v) from (hb.cell (p := ⟨ob, oo + k * 2 + 1, none⟩) hob).trans c1')
          have HE := Lib.hid hE
          clear c0' c1' hb hE
          go_wp2
          have c0 := C0.out
          have c1 := C1.out
          refine wp_region_P (by kernel_rfl) (region_vals 197 [.pointer none, .slice (some ⟨ob, oo, none⟩) B.length cB, .int .i64 k, .pointer (some ⟨ob, oo + k * 2, none⟩), .pointer (some ⟨ob, oo + k * 2, none⟩), .int .i64 z, .slice (some ⟨ob, oo, none⟩) B.length cB, .int .i64 k, .pointer (some ⟨ob, oo + k * 2, none⟩), .pointer (some ⟨ob, oo + k * 2 + 1, none⟩), .int .u64 v, .bool false, .pointer none, .slice (some ⟨ob, oo, none⟩) B.length cB, .int .i64 k, .pointer (some ⟨ob, oo + k * 2, none⟩), .pointer (some ⟨ob, oo + k * 2, none⟩), .int .i64 z, .slice (some ⟨ob, oo, none⟩) B.length cB, .int .i64 k, .pointer (some ⟨ob, oo + k * 2, none⟩), .pointer (some ⟨ob, oo + k * 2 + 1, none⟩), .int .u64 v, .bool false, .bool false] rfl (by decide) rfl ?duties ?rest)
          case duties =>
            refine ⟨?_, ?_, ?_, ?_, ?_, ?_, ?_, ?_, ?_, ?_, ?_, ?_, ?_, ?_, ?_, ?_, ?_, ?_, ?_, ?_, ?_, ?_, ?_, ?_, ?_, trivial⟩
            · refine duty_free rfl fun a w' hE hF hA => ?_
              have x1 := hF.slot 15 _ (by decide) rfl
              exact wp_value (w' := w') (v := .pointer none) (by simp only [execOp, x1]; simp [go_sem]) ⟨_, rfl, rfl, Ext.refl _⟩
            · refine duty_free rfl fun a w' hE hF hA => ?_
              have x1 := hF.slot 3 _ (by decide) rfl
              exact wp_value (w' := w') (v := .slice (some ⟨ob, oo, none⟩) B.length cB) (by simp only [execOp, x1]; simp [go_sem]) ⟨_, rfl, rfl, Ext.refl _⟩
            · refine duty_free rfl fun a w' hE hF hA => ?_
              have x1 := hF.slot 20 _ (by decide) rfl
              exact wp_value (w' := w') (v := .int .i64 k) (by simp only [execOp, x1]; simp [go_sem]) ⟨_, rfl, rfl, Ext.refl _⟩
            · refine duty_free rfl fun a w' hE hF hA => ?_
              have x1 := hA.val 1 118 rfl rfl ⟨⟨1, .data⟩, by simp, rfl, rfl⟩ rfl
              have x2 := hA.val 2 119 rfl rfl ⟨⟨2, .data⟩, by simp, rfl, rfl⟩ rfl
              exact wp_value (w' := w') (v := .pointer (some ⟨ob, oo + k * 2, none⟩)) (by simp only [execOp, x1, x2]; simp [go_sem, hk]) ⟨_, rfl, rfl, Ext.refl _⟩
            · refine duty_free rfl fun a w' hE hF hA => ?_
              have x1 := hA.val 3 120 rfl rfl ⟨⟨3, .data⟩, by simp, rfl, rfl⟩ rfl
              exact wp_value (w' := w') (v := .pointer (some ⟨ob, oo + k * 2, none⟩)) (by simp only [execOp, x1]; simp [go_sem]) ⟨_, rfl, rfl, Ext.refl _⟩
            · refine duty_free rfl fun a w' hE hF hA => ?_
              have x1 := hA.val 4 121 rfl rfl ⟨⟨4, .data⟩, by simp, rfl, rfl⟩ rfl
              exact wp_value (ex_cell rfl _ _ x1 ((hE.cell (World.block_lt_of_cell? _ _ c0)).trans c0) rfl Tryd.underlying2) ⟨_, rfl, rfl, Ext.refl _⟩
            · refine duty_free rfl fun a w' hE hF hA => ?_
              have x1 := hF.slot 3 _ (by decide) rfl
              exact wp_value (w' := w') (v := .slice (some ⟨ob, oo, none⟩) B.length cB) (by simp only [execOp, x1]; simp [go_sem]) ⟨_, rfl, rfl, Ext.refl _⟩
            · refine duty_free rfl fun a w' hE hF hA => ?_
              have x1 := hF.slot 20 _ (by decide) rfl
              exact wp_value (w' := w') (v := .int .i64 k) (by simp only [execOp, x1]; simp [go_sem]) ⟨_, rfl, rfl, Ext.refl _⟩
            · refine duty_free rfl fun a w' hE hF hA => ?_
              have x1 := hA.val 6 123 rfl rfl ⟨⟨6, .data⟩, by simp, rfl, rfl⟩ rfl
              have x2 := hA.val 7 124 rfl rfl ⟨⟨7, .data⟩, by simp, rfl, rfl⟩ rfl
              exact wp_value (w' := w') (v := .pointer (some ⟨ob, oo + k * 2, none⟩)) (by simp only [execOp, x1, x2]; simp [go_sem, hk]) ⟨_, rfl, rfl, Ext.refl _⟩
            · refine duty_free rfl fun a w' hE hF hA => ?_
              have x1 := hA.val 8 125 rfl rfl ⟨⟨8, .data⟩, by simp, rfl, rfl⟩ rfl
              exact wp_value (w' := w') (v := .pointer (some ⟨ob, oo + k * 2 + 1, none⟩)) (by simp only [execOp, x1]; simp [go_sem]) ⟨_, rfl, rfl, Ext.refl _⟩
            · refine duty_free rfl fun a w' hE hF hA => ?_
              have x1 := hA.val 9 126 rfl rfl ⟨⟨9, .data⟩, by simp, rfl, rfl⟩ rfl
              exact wp_value (ex_cell rfl _ _ x1 ((hE.cell (World.block_lt_of_cell? _ _ c1)).trans c1) rfl Tryd.underlying49) ⟨_, rfl, rfl, Ext.refl _⟩
            · refine duty_free rfl fun a w' hE hF hA => ?_
              have x1 := hA.val 0 117 rfl rfl ⟨⟨0, .data⟩, by simp, rfl, rfl⟩ rfl
              have x2 := hA.val 5 122 rfl rfl ⟨⟨5, .data⟩, by simp, rfl, rfl⟩ rfl
              have x3 := hA.val 10 127 rfl rfl ⟨⟨10, .data⟩, by simp, rfl, rfl⟩ rfl
              refine wp_enter (ex_call rfl (enters_f Tryd.func25 (by kernel_rfl) rfl)) (by simp only [List.map_toArray, List.map_cons, List.map_nil, x1, x2, x3]; exact note_nil z v w') ?_; rintro e w4 ⟨rfl, rfl⟩; exact ⟨_, rfl, _, rfl, rfl, Ext.refl _⟩
            · refine duty_free rfl fun a w' hE hF hA => ?_
              have x1 := hF.slot 17 _ (by decide) rfl
              exact wp_value (w' := w') (v := .pointer none) (by simp only [execOp, x1]; simp [go_sem]) ⟨_, rfl, rfl, Ext.refl _⟩
            · refine duty_free rfl fun a w' hE hF hA => ?_
              have x1 := hF.slot 3 _ (by decide) rfl
              exact wp_value (w' := w') (v := .slice (some ⟨ob, oo, none⟩) B.length cB) (by simp only [execOp, x1]; simp [go_sem]) ⟨_, rfl, rfl, Ext.refl _⟩
            · refine duty_free rfl fun a w' hE hF hA => ?_
              have x1 := hF.slot 20 _ (by decide) rfl
              exact wp_value (w' := w') (v := .int .i64 k) (by simp only [execOp, x1]; simp [go_sem]) ⟨_, rfl, rfl, Ext.refl _⟩
            · refine duty_free rfl fun a w' hE hF hA => ?_
              have x1 := hA.val 13 130 rfl rfl ⟨⟨13, .data⟩, by simp, rfl, rfl⟩ rfl
              have x2 := hA.val 14 131 rfl rfl ⟨⟨14, .data⟩, by simp, rfl, rfl⟩ rfl
              exact wp_value (w' := w') (v := .pointer (some ⟨ob, oo + k * 2, none⟩)) (by simp only [execOp, x1, x2]; simp [go_sem, hk]) ⟨_, rfl, rfl, Ext.refl _⟩
            · refine duty_free rfl fun a w' hE hF hA => ?_
              have x1 := hA.val 15 132 rfl rfl ⟨⟨15, .data⟩, by simp, rfl, rfl⟩ rfl
              exact wp_value (w' := w') (v := .pointer (some ⟨ob, oo + k * 2, none⟩)) (by simp only [execOp, x1]; simp [go_sem]) ⟨_, rfl, rfl, Ext.refl _⟩
            · refine duty_free rfl fun a w' hE hF hA => ?_
              have x1 := hA.val 16 133 rfl rfl ⟨⟨16, .data⟩, by simp, rfl, rfl⟩ rfl
              exact wp_value (ex_cell rfl _ _ x1 ((hE.cell (World.block_lt_of_cell? _ _ c0)).trans c0) rfl Tryd.underlying2) ⟨_, rfl, rfl, Ext.refl _⟩
            · refine duty_free rfl fun a w' hE hF hA => ?_
              have x1 := hF.slot 3 _ (by decide) rfl
              exact wp_value (w' := w') (v := .slice (some ⟨ob, oo, none⟩) B.length cB) (by simp only [execOp, x1]; simp [go_sem]) ⟨_, rfl, rfl, Ext.refl _⟩
            · refine duty_free rfl fun a w' hE hF hA => ?_
              have x1 := hF.slot 20 _ (by decide) rfl
              exact wp_value (w' := w') (v := .int .i64 k) (by simp only [execOp, x1]; simp [go_sem]) ⟨_, rfl, rfl, Ext.refl _⟩
            · refine duty_free rfl fun a w' hE hF hA => ?_
              have x1 := hA.val 18 135 rfl rfl ⟨⟨18, .data⟩, by simp, rfl, rfl⟩ rfl
              have x2 := hA.val 19 136 rfl rfl ⟨⟨19, .data⟩, by simp, rfl, rfl⟩ rfl
              exact wp_value (w' := w') (v := .pointer (some ⟨ob, oo + k * 2, none⟩)) (by simp only [execOp, x1, x2]; simp [go_sem, hk]) ⟨_, rfl, rfl, Ext.refl _⟩
            · refine duty_free rfl fun a w' hE hF hA => ?_
              have x1 := hA.val 20 137 rfl rfl ⟨⟨20, .data⟩, by simp, rfl, rfl⟩ rfl
              exact wp_value (w' := w') (v := .pointer (some ⟨ob, oo + k * 2 + 1, none⟩)) (by simp only [execOp, x1]; simp [go_sem]) ⟨_, rfl, rfl, Ext.refl _⟩
            · refine duty_free rfl fun a w' hE hF hA => ?_
              have x1 := hA.val 21 138 rfl rfl ⟨⟨21, .data⟩, by simp, rfl, rfl⟩ rfl
              exact wp_value (ex_cell rfl _ _ x1 ((hE.cell (World.block_lt_of_cell? _ _ c1)).trans c1) rfl Tryd.underlying49) ⟨_, rfl, rfl, Ext.refl _⟩
            · refine duty_free rfl fun a w' hE hF hA => ?_
              have x1 := hA.val 12 129 rfl rfl ⟨⟨12, .data⟩, by simp, rfl, rfl⟩ rfl
              have x2 := hA.val 17 134 rfl rfl ⟨⟨17, .data⟩, by simp, rfl, rfl⟩ rfl
              have x3 := hA.val 22 139 rfl rfl ⟨⟨22, .data⟩, by simp, rfl, rfl⟩ rfl
              refine wp_enter (ex_call rfl (enters_f Tryd.func26 (by kernel_rfl) rfl)) (by simp only [List.map_toArray, List.map_cons, List.map_nil, x1, x2, x3]; exact rnote_nil z v w') ?_; rintro e w4 ⟨rfl, rfl⟩; exact ⟨_, rfl, _, rfl, rfl, Ext.refl _⟩
            · refine duty_free rfl fun a w' hE hF hA => ?_
              have x1 := hA.val 11 128 rfl rfl ⟨⟨11, .data⟩, by simp, rfl, rfl⟩ rfl
              have x2 := hA.val 23 140 rfl rfl ⟨⟨23, .data⟩, by simp, rfl, rfl⟩ rfl
              exact wp_value (w' := w') (v := .bool false) (by simp only [execOp, x1, x2]; simp [go_sem]) ⟨_, rfl, rfl, Ext.refl _⟩
          case rest =>
            intro W8 hE8
            have HE8 := Lib.hid (HE.out.trans hE8)
            clear c0 c1 C0 C1 hE8
            simp only [filled, List.zip_cons_cons, List.zip_nil_left, List.foldl_cons, List.foldl_nil, Act.put, List.setIfInBounds_toArray, List.set_cons_succ, List.set_cons_zero, Exit.inBlock, Exit.then]
            rename_i hK
            refine hK _ _ ?_
            go_wp2
            go_roundw
            case rel => exact ⟨k + 1, by omega, by go_num, HE8.out⟩
            case measure => simp [intOf]; omega
        · obtain rfl : k = B.length := by omega
          have CA := bat_nil zat wr
          unfold AtOut at CA
          have CA := Lib.hid CA
          have HE := Lib.hid hE
          clear hE
          go_wp2_with fail
          refine CA.out.mono ?_
          rintro e X1 ⟨rfl, hE1⟩
          have hE1 : Ext wr X1 := hE1
          have CR := Lib.hid (rat_nil zat X1)
          have CP := Lib.hid (part_nil none X1)
          have HX1 := Lib.hid (HE.out.trans hE1)
          clear CA hE1
          go_wp2_with fail
          refine CR.out.mono ?_
          rintro e X2 ⟨rfl, rfl⟩
          clear CR
          go_wp2_with fail
          refine CP.out.mono ?_
          rintro e X2 ⟨rfl, hE2⟩
          have hE2 : Ext X1 X2 := hE2
          have CQ := Lib.hid (rpart_nil none X2)
          have CL := Lib.hid (blen_nil X2)
          have HBX := Lib.hid ((HEW6.out.trans HX1.out).trans hE2)
          clear CP hE2
          go_wp2_with fail
          refine CQ.out.mono ?_
          rintro e X3 ⟨rfl, rfl⟩
          clear CQ
          go_wp2_with fail
          refine CL.out.mono ?_
          rintro e X3 ⟨rfl, rfl⟩
          clear CL
          go_wp2
          go_ret
          exact ⟨by simp, HBX.out⟩
end Go.Proofs.YtfgjbcejpjcpeaaDoor
