/- The walks of Turn and Value: a number that is carried along. Small laws on memory: a store into the middle of a row; what changes but for a set of blocks; an append to a row of the call's own, in a region that draws. Rows that show nodes: what they hold, their first places and those behind them, rows of the call's own; a slice of a slice. A nil tree: what is told of it. The walk of Turn, its lists in any blocks but the number's own; the contracts of a nil number. -/
import Derived.Test.YtamolbegmkngdaaDoorJDigestBack9
import Derived.Deep.RegionLaw
import Derived.Test.YtamolbegmkngdaaDoorJDigestBack7
namespace Go.Proofs.YtamolbegmkngdaaDoor
open Go.RowKit Go.Sort
set_option maxHeartbeats 4000000
set_option maxRecDepth 100000

/-- A running number in memory. -/
def RunAt (w : World) (br : Nat) (v : Int) : Prop := w.heap[br]? = some (.cells #[.int .u64 v] 89 (0, 0))

/-- All is as it was, but for one block. -/
structure But (r : Nat) (w w' : World) : Prop where
  os : w'.os = w.os
  tape : w'.tape = w.tape
  output : w'.output = w.output
  size : w.heap.size ≤ w'.heap.size
  same : ∀ k, k < w.heap.size → k ≠ r → w'.heap[k]? = w.heap[k]?
theorem But.refl (r : Nat) (w : World) : But r w w := ⟨rfl, rfl, rfl, Nat.le_refl _, fun _ _ _ => rfl⟩
theorem But.trans {r : Nat} {a b c : World} (h : But r a b) (k : But r b c) : But r a c :=
  ⟨k.os.trans h.os, k.tape.trans h.tape, k.output.trans h.output, Nat.le_trans h.size k.size, fun i hi hn => (k.same i (Nat.lt_of_lt_of_le hi h.size) hn).trans (h.same i hi hn)⟩
theorem But.of_ext {r : Nat} {a b : World} (h : Ext a b) : But r a b := ⟨h.os, h.tape, h.output, h.size, fun k hk _ => h.block k hk⟩
theorem But.set (r : Nat) (w : World) (cs : Array Value) : But r w (w.setRow r cs) := ⟨rfl, rfl, rfl, by simp, fun _ _ hn => setRow_other _ _ _ _ hn⟩
theorem But.below {r B : Nat} {w w' : World} (h : But r w w') (hB : B ≤ r) (hs : B ≤ w.heap.size) : Below B w w' :=
  ⟨h.os, h.tape, h.output, h.size, fun k hk => h.same k (by omega) (by omega)⟩
theorem But.run {r q : Nat} {w w' : World} (h : But r w w') {v : Int} (hq : RunAt w q v) (hn : q ≠ r) : RunAt w' q v := (h.same q (Array.getElem?_eq_some_iff.1 hq).1 hn).trans hq

theorem value_any (br : Nat) (v : Int) (w : World) (hr : RunAt w br v) : Calls Tryd.prog 24 #[.pointer (some ⟨br, 0, none⟩)] w fun e w' => e = .returned (.int .u64 v) ∧ w = w' := by
  have hc : w.cell? ⟨br, 0, none⟩ = some (.int .u64 v) := cell_of_row _ _ _ _ _ _ hr
  clear hr
  go_enter Tryd.func24, Tryd.ntmps24
  go_wp2
  go_ret
  exact ⟨rfl, rfl⟩

def BeginOut (v : Int) (w : World) (e : Ending) (w' : World) : Prop := ∃ b, e = .returned (.pointer (some ⟨b, 0, none⟩)) ∧ w.heap.size ≤ b ∧ RunAt w' b v ∧ Ext w w'
theorem begin_any (S : Nat → Prop) (w : World) (bt : Nat) (M : List (Key × Nd)) (N : Nat) (hT : TreeAt S w bt M N) (hTb : Tabs w) (hks : M.length * 168 ≤ 140737488355328) :
    Calls Tryd.prog 18 #[.pointer (some ⟨bt, 0, none⟩)] w (BeginOut (addN 0 (M.map (·.2))) w) := by
  have C1 := Lib.hid (dof_any S w bt M N hT hTb hks)
  clear hT hTb
  go_enter Tryd.func18, Tryd.ntmps18
  go_wp2_with fail
  refine C1.out.mono ?_
  rintro e W1 ⟨rfl, hE1⟩
  have hfin : BeginOut (addN 0 (M.map (·.2))) w (.returned (.pointer (some ⟨W1.heap.size, 0, none⟩))) (W1.alloc (.cells #[.int .u64 (addN 0 (M.map (·.2)))] 89)) := ⟨W1.heap.size, rfl, hE1.size, heap_alloc_new _ _, hE1.trans (Ext.alloc _ _)⟩
  have HFIN := Lib.hid hfin
  clear hfin hE1 C1
  go_wp2
  go_ret
  exact HFIN.out

def TurnOut (br : Nat) (v : Int) (w : World) (e : Ending) (w' : World) : Prop := e = .returned (.tuple #[]) ∧ RunAt w' br v ∧ But br w w'

theorem addN_take (s : Int) (l : List Nd) (k : Nat) (h : k < l.length) : addN s (l.take (k + 1)) = IntKind.u64.wrap (addN s (l.take k) + nodeN l[k]) := by
  rw [List.take_succ_eq_append_getElem h, addN_snoc]
theorem subN_take (s : Int) (l : List Nd) (k : Nat) (h : k < l.length) : subN s (l.take (k + 1)) = IntKind.u64.wrap (subN s (l.take k) - nodeN l[k]) := by
  rw [List.take_succ_eq_append_getElem h, subN_snoc]

theorem turn_any (br : Nat) (v : Int) (A B : List Nd) (aA aB : Option Addr) (cA cB B0 : Nat) (w : World) (hr : RunAt w br v) (hT : Tabs w) (hA : NdsAt B0 w aA A) (hB : NdsAt B0 w aB B) (hfA : ∀ n ∈ A, Fit n) (hfB : ∀ n ∈ B, Fit n) (h2 : 2 ≤ B0) (hB0 : B0 ≤ br) (hB1 : B0 ≤ w.heap.size)
    (hlA : A.length ≤ 9223372036854775807) (hlB : B.length ≤ 9223372036854775807) :
    Calls Tryd.prog 21 #[.pointer (some ⟨br, 0, none⟩), .slice aA A.length cA, .slice aB B.length cB] w (TurnOut br (addN (subN v A) B) w) := by
  have HA := Lib.hid hA
  have HB := Lib.hid hB
  have HFA := Lib.hid hfA
  have HFB := Lib.hid hfB
  have HT := Lib.hid hT
  clear hA hB hfA hfB hT
  go_enter Tryd.func21, Tryd.ntmps21
  go_wp2
  go_loopw [14] (fun i wr => ∃ k : Nat, k ≤ A.length ∧ i = .int .i64 k ∧ RunAt wr br (subN (v) (A.take k)) ∧ But br w wr) (fun i _ => A.length - (intOf i).toNat)
  case atStart => exact ⟨0, Nat.zero_le _, rfl, by simpa [subN] using hr, But.refl _ _⟩
  case round =>
    obtain ⟨k, hk, rfl, hR, hU⟩ := hrel
    by_cases hlt : k < A.length
    · have hLk : A[k]? = some A[k] := List.getElem?_eq_getElem hlt
      have hfk := HFA.out A[k] (List.getElem_mem hlt)
      have HS := Lib.hid (subN_take (v) A k hlt)
      obtain ⟨b, off, vv, rfl, hb, hv, hc⟩ := HA.out k A[k] hLk
      generalize A[k] = n at *
      obtain ⟨da, dc, aa, ac, rfl, hD, hAc⟩ := hv
      have hBl : Below B0 w wr := hU.below hB0 hB1
      have hcw : ∀ j u, (ndC n (.slice da n.data.length dc) (.slice aa n.acl.length ac))[j]? = some u → wr.cell? ((⟨b, off + k * 17, none⟩ : Addr).add j) = some u := fun j u hj => by
        rw [addr_add, hBl.cell (p := ⟨b, off + k * 17 + j, none⟩) hb]
        exact hc j u hj
      have hwz : B0 ≤ wr.heap.size := Nat.le_trans hB1 hU.size
      obtain ⟨W2, hW2⟩ : ∃ W2, W2 = wr.alloc (.cells (ndC n (.slice da n.data.length dc) (.slice aa n.acl.length ac)) 37) := ⟨_, rfl⟩
      have he2 : Ext wr W2 := by rw [hW2]; exact Ext.alloc _ _
      have hDW := ((hD.below hBl).mono hwz).ext he2
      have hAW := ((hAc.below hBl).mono hwz).ext he2
      have hTW : Tabs W2 := HT.out.below (hBl.trans (he2.mono hwz)) h2
      have hU2 : But br w W2 := hU.trans (But.of_ext he2)
      have hR2 : RunAt W2 br (subN (v) (A.take k)) := (he2.block br (Array.getElem?_eq_some_iff.1 hR).1).trans hR
      have hbl : W2.heap[wr.heap.size]? = some (.cells (ndC n (.slice da n.data.length dc) (.slice aa n.acl.length ac)) 37 (0, 0)) := by rw [hW2]; exact heap_alloc_new wr _
      generalize subN (v) (A.take k) = s at *
      have hs : W2.cell? ⟨br, 0, none⟩ = some (.int .u64 s) := cell_of_row _ _ _ _ _ _ hR2
      have HSET := Lib.hid ((setRow_alloc wr zeroNd (ndC n (.slice da n.data.length dc) (.slice aa n.acl.length ac)) 37).trans hW2.symm)
      have HNew := Lib.hid (heap_alloc_new wr (.cells zeroNd 37))
      have HC := Lib.hid hcw
      have HBL := Lib.hid hbl
      have HSs := Lib.hid hs
      have HDW := Lib.hid hDW
      have HAW := Lib.hid hAW
      have HTW := Lib.hid hTW
      have HU2 := Lib.hid hU2
      have HR2 := Lib.hid hR2
      unfold ndC at HSET HC
      unfold zeroNd at HSET HNew
      clear hcw hbl hs hDW hAW hTW hU2 hR2 hW2 he2 hR hU hBl hc hD hAc hLk
      go_wp2_with (first | (refine wpList_load_at rfl 37 (.tmp 16) rfl _ rfl _ _ HC.out Tryd.underlying37 rfl sizeNd ?_) | (refine wpList_store_row rfl 37 (.tmp 7) (.tmp 17) rfl wr.heap.size _ rfl rfl 37 _ HNew.out sizeNd rfl (cells_node n da aa _ _ dc ac) ?_; rw [HSET.out]))
      have hbl := HBL.out
      have hs := HSs.out
      have hDW := HDW.out
      have hAW := HAW.out
      have hTW := HTW.out
      refine wp_region_P (by kernel_rfl) (region_store_vals 44 [.pointer (some ⟨br, 0, none⟩), .pointer (some ⟨br, 0, none⟩), .pointer (some ⟨br, 0, none⟩), .int .u64 s, .agg (ndC n (.slice da n.data.length dc) (.slice aa n.acl.length ac)), .int .u64 (nodeN n), .int .u64 (IntKind.u64.wrap (s - nodeN n)), .pointer (some ⟨br, 0, none⟩), .pointer (some ⟨br, 0, none⟩)] 9 _ rfl rfl rfl rfl rfl (by decide) rfl ?duties ?last)
      case duties =>
            refine ⟨?_, ?_, ?_, ?_, ?_, ?_, ?_, ?_, ?_, trivial⟩
            · refine duty_free rfl fun a w' hE hF hA => ?_
              have x1 := hF.slot 0 _ (by decide) rfl
              exact wp_value (w' := w') (v := .pointer (some ⟨br, 0, none⟩)) (by simp only [execOp, x1]; simp [go_sem]) ⟨_, rfl, rfl, Ext.refl _⟩
            · refine duty_free rfl fun a w' hE hF hA => ?_
              have x1 := hA.val 0 18 rfl rfl ⟨⟨0, .data⟩, by simp, rfl, rfl⟩ rfl
              exact wp_value (w' := w') (v := .pointer (some ⟨br, 0, none⟩)) (by simp only [execOp, x1]; simp [go_sem]) ⟨_, rfl, rfl, Ext.refl _⟩
            · refine duty_free rfl fun a w' hE hF hA => ?_
              have x1 := hA.val 1 19 rfl rfl ⟨⟨1, .data⟩, by simp, rfl, rfl⟩ rfl
              exact wp_value (w' := w') (v := .pointer (some ⟨br, 0, none⟩)) (by simp only [execOp, x1]; simp [go_sem]) ⟨_, rfl, rfl, Ext.refl _⟩
            · refine duty_free rfl fun a w' hE hF hA => ?_
              have x1 := hA.val 2 20 rfl rfl ⟨⟨2, .data⟩, by simp, rfl, rfl⟩ rfl
              exact wp_value (ex_cell rfl _ _ x1 ((hE.cell (World.block_lt_of_cell? _ _ hs)).trans hs) rfl Tryd.underlying50) ⟨_, rfl, rfl, Ext.refl _⟩
            · refine duty_free rfl fun a w' hE hF hA => ?_
              have x1 := hF.slot 7 _ (by decide) rfl
              exact wp_value (ex_load_row rfl _ x1 37 _ (0, 0) _ ((hE.block _ (Array.getElem?_eq_some_iff.1 hbl).1).trans hbl) Tryd.underlying37 rfl sizeNd) ⟨_, rfl, rfl, Ext.refl _⟩
            · refine duty_free rfl fun a w' hE hF hA => ?_
              have x1 := hA.val 4 22 rfl rfl ⟨⟨4, .data⟩, by simp, rfl, rfl⟩ rfl
              refine wp_enter (ex_call rfl (enters_f Tryd.func42 (by kernel_rfl) rfl)) (by simp only [List.map_toArray, List.map_cons, List.map_nil, x1]; exact node_any n da aa dc ac w' hfk (hTW.below hE hTW.size) (hDW.ext hE) (hAW.ext hE)) ?_
              rintro e w4 ⟨rfl, hb⟩
              exact ⟨_, rfl, _, rfl, rfl, hb⟩
            · refine duty_free rfl fun a w' hE hF hA => ?_
              have x1 := hA.val 3 21 rfl rfl ⟨⟨3, .data⟩, by simp, rfl, rfl⟩ rfl
              have x2 := hA.val 5 23 rfl rfl ⟨⟨5, .data⟩, by simp, rfl, rfl⟩ rfl
              exact wp_value (w' := w') (v := .int .u64 (IntKind.u64.wrap (s - nodeN n))) (by simp only [execOp, x1, x2]; simp [go_sem]) ⟨_, rfl, rfl, Ext.refl _⟩
            · refine duty_free rfl fun a w' hE hF hA => ?_
              have x1 := hA.val 0 18 rfl rfl ⟨⟨0, .data⟩, by simp, rfl, rfl⟩ rfl
              exact wp_value (w' := w') (v := .pointer (some ⟨br, 0, none⟩)) (by simp only [execOp, x1]; simp [go_sem]) ⟨_, rfl, rfl, Ext.refl _⟩
            · refine duty_free rfl fun a w' hE hF hA => ?_
              have x1 := hA.val 7 25 rfl rfl ⟨⟨7, .data⟩, by simp, rfl, rfl⟩ rfl
              exact wp_value (w' := w') (v := .pointer (some ⟨br, 0, none⟩)) (by simp only [execOp, x1]; simp [go_sem]) ⟨_, rfl, rfl, Ext.refl _⟩
      case last =>
        intro W8 hE8
        have hR8 : RunAt W8 br s := (hE8.block br (Array.getElem?_eq_some_iff.1 HR2.out).1).trans HR2.out
        have hU8 := (HU2.out.trans (But.of_ext hE8)).trans (But.set br W8 #[.int .u64 (IntKind.u64.wrap (s - nodeN n))])
        have hR9 : RunAt (W8.setRow br #[.int .u64 (IntKind.u64.wrap (s - nodeN n))]) br (IntKind.u64.wrap (s - nodeN n)) := setRow_heap _ _ _ _ _ _ hR8
        have HR9 := Lib.hid hR9
        have HU8 := Lib.hid hU8
        have HR8 := Lib.hid hR8
        clear hbl hs hDW hAW hTW hR9 hU8 hR8 HBL HSs HDW HAW HTW HU2 HR2 HC HSET HNew
        simp only [filled, List.take_succ_cons, List.take_zero, List.zip_cons_cons, List.zip_nil_left, List.foldl_cons, List.foldl_nil, Act.put, List.setIfInBounds_toArray, List.set_cons_succ, List.set_cons_zero]
        refine wp_skipped (w' := W8.setRow br #[.int .u64 (IntKind.u64.wrap (s - nodeN n))]) (by refine run_store_one 50 (.tmp 26) (.tmp 24) ?_ br (.int .u64 (IntKind.u64.wrap (s - nodeN n))) ?_ ?_ ?_ 89 (.int .u64 s) HR8.out infoU64 <;> rfl) ?_
        simp only [Exit.inBlock, Exit.then, Act.put]
        rename_i hK
        refine hK _ _ ?_
        go_wp2
        go_roundw
        case rel => exact ⟨k + 1, by omega, by go_num, by rw [HS.out]; exact HR9.out, HU8.out⟩
        case measure => simp [intOf]; omega
    · obtain rfl : k = A.length := by omega
      rw [List.take_length] at hR
      go_wp2
      go_loopw [30] (fun i wr => ∃ k : Nat, k ≤ B.length ∧ i = .int .i64 k ∧ RunAt wr br (addN (subN v A) (B.take k)) ∧ But br w wr) (fun i _ => B.length - (intOf i).toNat)
      case atStart => exact ⟨0, Nat.zero_le _, rfl, by simpa [addN] using hR, hU⟩
      case round =>
        obtain ⟨k, hk, rfl, hR, hU⟩ := hrel
        by_cases hlt : k < B.length
        · have hLk : B[k]? = some B[k] := List.getElem?_eq_getElem hlt
          have hfk := HFB.out B[k] (List.getElem_mem hlt)
          have HS := Lib.hid (addN_take (subN v A) B k hlt)
          obtain ⟨b, off, vv, rfl, hb, hv, hc⟩ := HB.out k B[k] hLk
          generalize B[k] = n at *
          obtain ⟨da, dc, aa, ac, rfl, hD, hAc⟩ := hv
          have hBl : Below B0 w wr := hU.below hB0 hB1
          have hcw : ∀ j u, (ndC n (.slice da n.data.length dc) (.slice aa n.acl.length ac))[j]? = some u → wr.cell? ((⟨b, off + k * 17, none⟩ : Addr).add j) = some u := fun j u hj => by
            rw [addr_add, hBl.cell (p := ⟨b, off + k * 17 + j, none⟩) hb]
            exact hc j u hj
          have hwz : B0 ≤ wr.heap.size := Nat.le_trans hB1 hU.size
          obtain ⟨W2, hW2⟩ : ∃ W2, W2 = wr.alloc (.cells (ndC n (.slice da n.data.length dc) (.slice aa n.acl.length ac)) 37) := ⟨_, rfl⟩
          have he2 : Ext wr W2 := by rw [hW2]; exact Ext.alloc _ _
          have hDW := ((hD.below hBl).mono hwz).ext he2
          have hAW := ((hAc.below hBl).mono hwz).ext he2
          have hTW : Tabs W2 := HT.out.below (hBl.trans (he2.mono hwz)) h2
          have hU2 : But br w W2 := hU.trans (But.of_ext he2)
          have hR2 : RunAt W2 br (addN (subN v A) (B.take k)) := (he2.block br (Array.getElem?_eq_some_iff.1 hR).1).trans hR
          have hbl : W2.heap[wr.heap.size]? = some (.cells (ndC n (.slice da n.data.length dc) (.slice aa n.acl.length ac)) 37 (0, 0)) := by rw [hW2]; exact heap_alloc_new wr _
          generalize addN (subN v A) (B.take k) = s at *
          have hs : W2.cell? ⟨br, 0, none⟩ = some (.int .u64 s) := cell_of_row _ _ _ _ _ _ hR2
          have HSET := Lib.hid ((setRow_alloc wr zeroNd (ndC n (.slice da n.data.length dc) (.slice aa n.acl.length ac)) 37).trans hW2.symm)
          have HNew := Lib.hid (heap_alloc_new wr (.cells zeroNd 37))
          have HC := Lib.hid hcw
          have HBL := Lib.hid hbl
          have HSs := Lib.hid hs
          have HDW := Lib.hid hDW
          have HAW := Lib.hid hAW
          have HTW := Lib.hid hTW
          have HU2 := Lib.hid hU2
          have HR2 := Lib.hid hR2
          unfold ndC at HSET HC
          unfold zeroNd at HSET HNew
          clear hcw hbl hs hDW hAW hTW hU2 hR2 hW2 he2 hR hU hBl hc hD hAc hLk
          go_wp2_with (first | (refine wpList_load_at rfl 37 (.tmp 32) rfl _ rfl _ _ HC.out Tryd.underlying37 rfl sizeNd ?_) | (refine wpList_store_row rfl 37 (.tmp 9) (.tmp 33) rfl wr.heap.size _ rfl rfl 37 _ HNew.out sizeNd rfl (cells_node n da aa _ _ dc ac) ?_; rw [HSET.out]))
          have hbl := HBL.out
          have hs := HSs.out
          have hDW := HDW.out
          have hAW := HAW.out
          have hTW := HTW.out
          refine wp_region_P (by kernel_rfl) (region_store_vals 44 [.pointer (some ⟨br, 0, none⟩), .pointer (some ⟨br, 0, none⟩), .pointer (some ⟨br, 0, none⟩), .int .u64 s, .agg (ndC n (.slice da n.data.length dc) (.slice aa n.acl.length ac)), .int .u64 (nodeN n), .int .u64 (IntKind.u64.wrap (s + nodeN n)), .pointer (some ⟨br, 0, none⟩), .pointer (some ⟨br, 0, none⟩)] 9 _ rfl rfl rfl rfl rfl (by decide) rfl ?duties ?last)
          case duties =>
                refine ⟨?_, ?_, ?_, ?_, ?_, ?_, ?_, ?_, ?_, trivial⟩
                · refine duty_free rfl fun a w' hE hF hA => ?_
                  have x1 := hF.slot 0 _ (by decide) rfl
                  exact wp_value (w' := w') (v := .pointer (some ⟨br, 0, none⟩)) (by simp only [execOp, x1]; simp [go_sem]) ⟨_, rfl, rfl, Ext.refl _⟩
                · refine duty_free rfl fun a w' hE hF hA => ?_
                  have x1 := hA.val 0 34 rfl rfl ⟨⟨0, .data⟩, by simp, rfl, rfl⟩ rfl
                  exact wp_value (w' := w') (v := .pointer (some ⟨br, 0, none⟩)) (by simp only [execOp, x1]; simp [go_sem]) ⟨_, rfl, rfl, Ext.refl _⟩
                · refine duty_free rfl fun a w' hE hF hA => ?_
                  have x1 := hA.val 1 35 rfl rfl ⟨⟨1, .data⟩, by simp, rfl, rfl⟩ rfl
                  exact wp_value (w' := w') (v := .pointer (some ⟨br, 0, none⟩)) (by simp only [execOp, x1]; simp [go_sem]) ⟨_, rfl, rfl, Ext.refl _⟩
                · refine duty_free rfl fun a w' hE hF hA => ?_
                  have x1 := hA.val 2 36 rfl rfl ⟨⟨2, .data⟩, by simp, rfl, rfl⟩ rfl
                  exact wp_value (ex_cell rfl _ _ x1 ((hE.cell (World.block_lt_of_cell? _ _ hs)).trans hs) rfl Tryd.underlying50) ⟨_, rfl, rfl, Ext.refl _⟩
                · refine duty_free rfl fun a w' hE hF hA => ?_
                  have x1 := hF.slot 9 _ (by decide) rfl
                  exact wp_value (ex_load_row rfl _ x1 37 _ (0, 0) _ ((hE.block _ (Array.getElem?_eq_some_iff.1 hbl).1).trans hbl) Tryd.underlying37 rfl sizeNd) ⟨_, rfl, rfl, Ext.refl _⟩
                · refine duty_free rfl fun a w' hE hF hA => ?_
                  have x1 := hA.val 4 38 rfl rfl ⟨⟨4, .data⟩, by simp, rfl, rfl⟩ rfl
                  refine wp_enter (ex_call rfl (enters_f Tryd.func42 (by kernel_rfl) rfl)) (by simp only [List.map_toArray, List.map_cons, List.map_nil, x1]; exact node_any n da aa dc ac w' hfk (hTW.below hE hTW.size) (hDW.ext hE) (hAW.ext hE)) ?_
                  rintro e w4 ⟨rfl, hb⟩
                  exact ⟨_, rfl, _, rfl, rfl, hb⟩
                · refine duty_free rfl fun a w' hE hF hA => ?_
                  have x1 := hA.val 3 37 rfl rfl ⟨⟨3, .data⟩, by simp, rfl, rfl⟩ rfl
                  have x2 := hA.val 5 39 rfl rfl ⟨⟨5, .data⟩, by simp, rfl, rfl⟩ rfl
                  exact wp_value (w' := w') (v := .int .u64 (IntKind.u64.wrap (s + nodeN n))) (by simp only [execOp, x1, x2]; simp [go_sem]) ⟨_, rfl, rfl, Ext.refl _⟩
                · refine duty_free rfl fun a w' hE hF hA => ?_
                  have x1 := hA.val 0 34 rfl rfl ⟨⟨0, .data⟩, by simp, rfl, rfl⟩ rfl
                  exact wp_value (w' := w') (v := .pointer (some ⟨br, 0, none⟩)) (by simp only [execOp, x1]; simp [go_sem]) ⟨_, rfl, rfl, Ext.refl _⟩
                · refine duty_free rfl fun a w' hE hF hA => ?_
                  have x1 := hA.val 7 41 rfl rfl ⟨⟨7, .data⟩, by simp, rfl, rfl⟩ rfl
                  exact wp_value (w' := w') (v := .pointer (some ⟨br, 0, none⟩)) (by simp only [execOp, x1]; simp [go_sem]) ⟨_, rfl, rfl, Ext.refl _⟩
          case last =>
            intro W8 hE8
            have hR8 : RunAt W8 br s := (hE8.block br (Array.getElem?_eq_some_iff.1 HR2.out).1).trans HR2.out
            have hU8 := (HU2.out.trans (But.of_ext hE8)).trans (But.set br W8 #[.int .u64 (IntKind.u64.wrap (s + nodeN n))])
            have hR9 : RunAt (W8.setRow br #[.int .u64 (IntKind.u64.wrap (s + nodeN n))]) br (IntKind.u64.wrap (s + nodeN n)) := setRow_heap _ _ _ _ _ _ hR8
            have HR9 := Lib.hid hR9
            have HU8 := Lib.hid hU8
            have HR8 := Lib.hid hR8
            clear hbl hs hDW hAW hTW hR9 hU8 hR8 HBL HSs HDW HAW HTW HU2 HR2 HC HSET HNew
            simp only [filled, List.take_succ_cons, List.take_zero, List.zip_cons_cons, List.zip_nil_left, List.foldl_cons, List.foldl_nil, Act.put, List.setIfInBounds_toArray, List.set_cons_succ, List.set_cons_zero]
            refine wp_skipped (w' := W8.setRow br #[.int .u64 (IntKind.u64.wrap (s + nodeN n))]) (by refine run_store_one 50 (.tmp 42) (.tmp 40) ?_ br (.int .u64 (IntKind.u64.wrap (s + nodeN n))) ?_ ?_ ?_ 89 (.int .u64 s) HR8.out infoU64 <;> rfl) ?_
            simp only [Exit.inBlock, Exit.then, Act.put]
            rename_i hK
            refine hK _ _ ?_
            go_wp2
            go_roundw
            case rel => exact ⟨k + 1, by omega, by go_num, by rw [HS.out]; exact HR9.out, HU8.out⟩
            case measure => simp [intOf]; omega
        · obtain rfl : k = B.length := by omega
          rw [List.take_length] at hR
          have hfin : TurnOut br (addN (subN v A) B) w (.returned (.tuple #[])) wr := ⟨rfl, hR, hU⟩
          have HFIN := Lib.hid hfin
          clear hfin hR hU
          go_wp2
          exact ⟨rfl, _, results_none rfl _ _ _, HFIN.out⟩


end Go.Proofs.YtamolbegmkngdaaDoor
namespace Go.Proofs.YtamolbegmkngdaaDoor
open Go.RowKit
set_option maxHeartbeats 2000000

section
variable {P : Program} {o : Oper} {a : Act} {w : World}
theorem run_store_in (ty : TypeId) (x y : Operand) (ho : o.op = .store ty x y) (g k : Nat) (v : Value) (hx : a.eval x = .pointer (some ⟨g, k, none⟩)) (hy : a.eval y = v) (h1 : ∀ u ∈ v.cells.toList, u.oneCell' = true)
    (t : TypeId) (cur : Array Value) (hg : w.heap[g]? = some (.cells cur t (0, 0))) (hk : k + v.cells.size ≤ cur.size) (hi : (P.info? ty).map (·.size) = some v.cells.size) :
    (execOp a.eval o).run P w = .ok .skip (w.setRow g (cur.toList.take k ++ v.cells.toList ++ cur.toList.drop (k + v.cells.toList.length)).toArray) := by
  subst hy
  have hst := run_storeCells_at P g k t (a.eval y).cells.toList 0 cur w hg (by simpa using hk) h1
  simp only [Nat.add_zero] at hst
  cases hq : P.info? ty with
  | none => simp [hq] at hi
  | some i =>
    have hs : i.size = (a.eval y).cells.size := by simpa [hq] using hi
    unfold execOp
    simp only [ho, hx, Instr.storeAt, Instr.sureAddr, Sem.run_bind, Sem.run_pure, Result.andThen_ok]
    simp [storeVar, sizeOf, typeInfo, hq, hs, hst, Result.andThen]

theorem wpList_store_in {ops : Array Oper} {rest : List Oper} {Q : Exit → Act → World → Prop} (hgd : o.guard = none) (ty : TypeId) (x y : Operand) (ho : o.op = .store ty x y) (g k : Nat) (v : Value) (hx : a.eval x = .pointer (some ⟨g, k, none⟩)) (hy : a.eval y = v) (h1 : ∀ u ∈ v.cells.toList, u.oneCell' = true)
    (t : TypeId) (cur : Array Value) (hg : w.heap[g]? = some (.cells cur t (0, 0))) (hk : k + v.cells.size ≤ cur.size) (hi : (P.info? ty).map (·.size) = some v.cells.size) (cs : Array Value) (hcs : (cur.toList.take k ++ v.cells.toList ++ cur.toList.drop (k + v.cells.toList.length)).toArray = cs)
    (h : wpList P ops Q rest (a.put o.dst undef) (w.setRow g cs)) : wpList P ops Q (o :: rest) a w :=
  wpList_plain hgd fun K hK => wp_skipped (run_store_in ty x y ho g k v hx hy h1 t cur hg hk hi) (by rw [hcs]; exact hK _ _ h)

theorem wp_store_in {K : Act → World → Prop} {Q : Exit → Act → World → Prop} (ty : TypeId) (x y : Operand) (g k : Nat) (v : Value) (t : TypeId) (cur cs : Array Value) (hg : w.heap[g]? = some (.cells cur t (0, 0))) (hk : k + v.cells.size ≤ cur.size) (hi : (P.info? ty).map (·.size) = some v.cells.size)
    (hcs : (cur.toList.take k ++ v.cells.toList ++ cur.toList.drop (k + v.cells.toList.length)).toArray = cs) (h1 : ∀ u ∈ v.cells.toList, u.oneCell' = true) (hK : K (a.put o.dst undef) (w.setRow g cs))
    (ho : o.op = .store ty x y) (hx : a.eval x = .pointer (some ⟨g, k, none⟩)) (hy : a.eval y = v) : o.wp P a w K Q :=
  wp_skipped (run_store_in ty x y ho g k v hx hy h1 t cur hg hk hi) (by rw [hcs]; exact hK)

theorem step_append_own {ops : Array Oper} {K : Act → World → Prop} {Q : Exit → Act → World → Prop} {E : Prop}
    (hg : o.guard = none) (s x : Operand) (t tx : TypeId) (hop : o.op = Op.call { callee := Callee.builtin Builtin.append, args := #[s, x], argTypes := #[t, tx] })
    (base : Nat) (e : TypeId) (i : TypeInfo) (z : Value) (size bytes : Nat) (ht : P.underlying t = some (.slice e)) (hi : P.info? e = some i) (hz : i.zero = some z) (hsize : i.size = size) (hby : i.bytes = bytes) (hzs : z.cells.size = size) (hsz : 0 < size)
    (v : Value) (n : Nat) (xs : List Value) (hv : a.eval s = v) (hown : w.ownsRow base e size v n xs)
    (xv : Value) (m : Nat) (news : List Value) (hx : a.eval x = xv) (hs : Src P size tx xv m news w)
    (h63 : n + m ≤ maxLen) (hbytes : (n + m) * bytes ≤ 140737488355328) (hbase : base ≤ w.heap.size)
    (hK : ∀ v' w', w'.ownsRow base e size v' (n + m) (xs ++ news) → w.grownBy w' v.ownBlock → (v'.ownBlock = v.ownBlock ∨ v'.ownBlock = some w.heap.size) → K (a.put o.dst v') w') :
    if Region.wanted o (yielded ops a.tmps) = true then Oper.wp P o a w K Q else E := by
  have hw : Region.wanted o (yielded ops a.tmps) = true := by simp [Region.wanted, hg]
  rw [if_pos hw]
  obtain ⟨v', w', hr, h2, h3, _, h5⟩ := run_append_own_src (P := P) w base t tx o.type e i z size bytes ht hi hz hsize hby hzs hsz v n xs hown xv m news hs h63 hbytes hbase
  unfold Oper.wp execOp
  simp only [hop, resolve, invoke, builtin, Sem.run_bind, Sem.run_pure, Result.andThen_ok, List.map_toArray, List.map_cons, List.map_nil, hv, hx, hr]
  exact hK v' w' h2 h3 h5
end

/-- All is as it was, but for blocks of a set. -/
structure Chg (S : Nat → Prop) (w w' : World) : Prop where
  os : w'.os = w.os
  tape : w'.tape = w.tape
  output : w'.output = w.output
  size : w.heap.size ≤ w'.heap.size
  same : ∀ k, k < w.heap.size → ¬ S k → w'.heap[k]? = w.heap[k]?
theorem Chg.refl (S : Nat → Prop) (w : World) : Chg S w w := ⟨rfl, rfl, rfl, Nat.le_refl _, fun _ _ _ => rfl⟩
theorem Chg.trans {S S' : Nat → Prop} {a b c : World} (h : Chg S a b) (k : Chg S' b c) (hS : ∀ i, i < a.heap.size → S' i → S i) : Chg S a c :=
  ⟨k.os.trans h.os, k.tape.trans h.tape, k.output.trans h.output, Nat.le_trans h.size k.size, fun i hi hn => (k.same i (Nat.lt_of_lt_of_le hi h.size) fun hs => hn (hS i hi hs)).trans (h.same i hi hn)⟩
theorem Chg.of_ext {S : Nat → Prop} {a b : World} (h : Ext a b) : Chg S a b := ⟨h.os, h.tape, h.output, h.size, fun k hk _ => h.block k hk⟩
theorem Chg.set {S : Nat → Prop} (r : Nat) (w : World) (cs : Array Value) (hr : S r) : Chg S w (w.setRow r cs) := ⟨rfl, rfl, rfl, by simp, fun k _ hn => setRow_other _ _ _ _ fun e => hn (e ▸ hr)⟩
theorem Chg.grown {S : Nat → Prop} {a b : World} {row : Option Nat} (h : a.grownBy b row) (hr : ∀ k, row = some k → k < a.heap.size → S k) : Chg S a b :=
  ⟨h.os, h.tape, h.output, h.size, fun k hk hn => h.block k hk fun e => hn (hr k e.symm hk)⟩
theorem Chg.below {S : Nat → Prop} {B : Nat} {w w' : World} (h : Chg S w w') (hB : ∀ k, S k → B ≤ k) (hs : B ≤ w.heap.size) : Below B w w' :=
  ⟨h.os, h.tape, h.output, h.size, fun k hk => h.same k (by omega) fun hs => by have := hB k hs; omega⟩
theorem Chg.mono {S S' : Nat → Prop} {w w' : World} (h : Chg S w w') (hS : ∀ k, k < w.heap.size → S k → S' k) : Chg S' w w' := ⟨h.os, h.tape, h.output, h.size, fun k hk hn => h.same k hk fun hs => hn (hS k hk hs)⟩
end Go.Proofs.YtamolbegmkngdaaDoor
namespace Go.Proofs.YtamolbegmkngdaaDoor
open Go.RowKit
set_option maxHeartbeats 2000000
set_option maxRecDepth 100000

/-- Rows that show nodes, all in blocks of a set. -/
structure RowsOf (S : Nat → Prop) (w : World) (a : Option Addr) (vs : List (Array Value)) (L : List Nd) : Prop where
  len : vs.length = L.length
  cells : CellsS S w a (vs.flatMap Array.toList)
  each : ∀ (j : Nat) (cs : Array Value), vs[j]? = some cs → ∃ n, L[j]? = some n ∧ NdS S w (.agg cs) n

/-- A slice's address: none, or a plain one. -/
def PlainA (a : Option Addr) (cap : Nat) : Prop := (a = none ∧ cap = 0) ∨ ∃ b off, a = some ⟨b, off, none⟩

theorem RowsOf.imp {S S' : Nat → Prop} {w w' : World} {a : Option Addr} {vs : List (Array Value)} {L : List Nd} (h : RowsOf S w a vs L) (hS : ∀ b, S b → S' b) (hw : ∀ k, S k → w'.heap[k]? = w.heap[k]?) : RowsOf S' w' a vs L :=
  ⟨h.len, h.cells.imp hS fun b o u hb hu => (World.cell?_of_block (hw b hb)).trans hu, fun j cs hj => by
    obtain ⟨n, hn, hN⟩ := h.each j cs hj
    exact ⟨n, hn, NdS.imp hN hS fun b o u hb hu => (World.cell?_of_block (hw b hb)).trans hu⟩⟩
theorem RowsOf.v17 {S : Nat → Prop} {w : World} {a : Option Addr} {vs : List (Array Value)} {L : List Nd} (h : RowsOf S w a vs L) : ∀ x ∈ vs, x.size = 17 := fun x hx => by
  obtain ⟨i, hi, ei⟩ := List.getElem_of_mem hx
  obtain ⟨n2, _, da2, dc2, aa2, ac2, e2, _⟩ := h.each i x (by rw [List.getElem?_eq_getElem hi, ei])
  simp only [Value.agg.injEq] at e2
  rw [e2]; rfl
/-- The j-th row. -/
theorem RowsOf.row {S : Nat → Prop} {w : World} {a : Option Addr} {vs : List (Array Value)} {L : List Nd} (h : RowsOf S w a vs L) {j : Nat} {n : Nd} (hj : L[j]? = some n) :
    ∃ b off da dc aa ac, a = some ⟨b, off, none⟩ ∧ S b ∧ (∀ r u, (ndC n (.slice da n.data.length dc) (.slice aa n.acl.length ac))[r]? = some u → w.cell? ⟨b, off + j * 17 + r, none⟩ = some u) ∧ CellsS S w da (n.data.map u8v) ∧ CellsS S w aa (acCs n.acl) ∧ vs[j]? = some (ndC n (.slice da n.data.length dc) (.slice aa n.acl.length ac)) := by
  have hjl := (List.getElem?_eq_some_iff.1 hj).1
  have hvk : vs[j]? = some (vs[j]'(by rw [h.len]; exact hjl)) := List.getElem?_eq_getElem _
  obtain ⟨n', hn', da, dc, aa, ac, e, hD, hA⟩ := h.each j _ hvk
  obtain rfl : n' = n := by rw [hj] at hn'; exact (Option.some.inj hn').symm
  simp only [Value.agg.injEq] at e
  rw [e] at hvk
  have hfl := flat17 vs j _ h.v17 hvk
  obtain ⟨b, off, rfl, hb, _⟩ := h.cells (j * 17 + 0) _ (hfl 0 (.string n'.path) rfl)
  refine ⟨b, off, da, dc, aa, ac, rfl, hb, fun r u hr => ?_, hD, hA, hvk⟩
  obtain ⟨b', off', e1, _, c1⟩ := h.cells (j * 17 + r) _ (hfl r u hr)
  simp only [Option.some.injEq, Addr.mk.injEq, and_true] at e1
  obtain ⟨rfl, rfl⟩ := e1
  rw [Nat.add_assoc]; exact c1

theorem infoNd17 : (Tryd.prog.info? 37).map (·.size) = some 17 := by kernel_rfl
theorem run_slice_to (a : Option Addr) (len cap i : Nat) (ha : ∀ p, a = some p → ∃ b off, p = ⟨b, off, none⟩) (hi : i ≤ cap) (W : World) : (Instr.slice 22 (.slice a len cap) none (some (.int .i64 i)) none).run Tryd.prog W = .ok (.slice a i cap) W := by
  have h1 : (0 : Int) ≤ i := by omega
  have h2 : (i : Int) ≤ cap := by omega
  obtain ⟨inf, hinf, hs⟩ := Option.map_eq_some_iff.1 infoNd17
  have hm : (if cap = 0 then a else a.map fun x => x.add 0) = a := by
    split
    · rfl
    · cases a with
      | none => rfl
      | some p =>
        obtain ⟨b, off, rfl⟩ := ha p rfl
        simp [Addr.add]
  simp [Instr.slice, Instr.sliceBounds, Instr.sliceBound, run_underlying Tryd.underlying22, asIntOf, Int.toNat_natCast, h1, h2, hi, sizeOf, typeInfo, hinf, hm, Sem.run, Result.andThen]
theorem run_slice_from (b off len cap i : Nat) (hi : i ≤ len) (hl : len ≤ cap) (W : World) : (Instr.slice 22 (.slice (some ⟨b, off, none⟩) len cap) (some (.int .i64 i)) none none).run Tryd.prog W = .ok (.slice (some (if cap = i then ⟨b, off, none⟩ else ⟨b, off + i * 17, none⟩)) (len - i) (cap - i)) W := by
  have h1 : (0 : Int) ≤ i := by omega
  have h2 : (i : Int) ≤ len := by omega
  obtain ⟨inf, hinf, hs⟩ := Option.map_eq_some_iff.1 infoNd17
  by_cases h0 : i = 0
  · subst h0
    by_cases hc : cap = 0 <;>
    simp [Instr.slice, Instr.sliceBounds, Instr.sliceBound, run_underlying Tryd.underlying22, asIntOf, sizeOf, typeInfo, hinf, hs, hc, Sem.run, Result.andThen, Addr.add]
  have h3 : ¬ i * 17 = 0 := by omega
  by_cases hc : cap = i <;>
  simp [Instr.slice, Instr.sliceBounds, Instr.sliceBound, run_underlying Tryd.underlying22, asIntOf, Int.toNat_natCast, h1, h2, hi, h0, h3, sizeOf, typeInfo, hinf, hs, hc, Sem.run, Result.andThen, Addr.add]
theorem run_slice_nil (W : World) : (Instr.slice 22 (.slice none 0 0) (some (.int .i64 0)) none none).run Tryd.prog W = .ok (.slice none 0 0) W := by
  obtain ⟨inf, hinf, hs⟩ := Option.map_eq_some_iff.1 infoNd17
  simp [Instr.slice, Instr.sliceBounds, Instr.sliceBound, run_underlying Tryd.underlying22, asIntOf, sizeOf, typeInfo, hinf, Sem.run, Result.andThen]

/-- A row of the call's own that shows nodes. -/
theorem RowsOf.of_own {S : Nat → Prop} {w : World} {base n : Nat} {v : Value} {vs : List (Array Value)} {L : List Nd} (h : w.ownsRow base 37 17 v n (vs.flatMap Array.toList)) (hn : n = L.length) (hl : vs.length = L.length) (hS : ∀ k, base ≤ k → k < w.heap.size → S k)
    (he : ∀ (j : Nat) (cs : Array Value), vs[j]? = some cs → ∃ n, L[j]? = some n ∧ NdS S w (.agg cs) n) : ∃ a c, v = .slice a n c ∧ n ≤ c ∧ c ≤ maxLen ∧ RowsOf S w a vs L ∧ PlainA a c := by
  rcases h.2 with ⟨rfl, h0⟩ | ⟨g, cap, cur, rfl, hb, hg, h1, h2, h3, h4⟩
  · have hL : L = [] := List.eq_nil_of_length_eq_zero (by omega)
    have hv : vs = [] := List.eq_nil_of_length_eq_zero (by rw [hl, hL]; rfl)
    subst h0 hL hv
    exact ⟨none, 0, rfl, Nat.le_refl _, Nat.zero_le _, ⟨rfl, fun j u hj => by simp at hj, he⟩, .inl ⟨rfl, rfl⟩⟩
  · refine ⟨some ⟨g, 0, none⟩, cap, rfl, h1, h2, ⟨hl, fun j u hj => ?_, he⟩, .inr ⟨g, 0, rfl⟩⟩
    have hc := h.cells (g := g) rfl j u hj
    rw [addr_add] at hc
    exact ⟨g, 0, rfl, hS g hb (Array.getElem?_eq_some_iff.1 hg).1, hc⟩

theorem flat_take (vs : List (Array Value)) (i : Nat) (h17 : ∀ x ∈ vs, x.size = 17) : (vs.flatMap Array.toList).take (i * 17) = (vs.take i).flatMap Array.toList := by
  induction vs generalizing i with
  | nil => simp
  | cons x vs ih =>
    cases i with
    | zero => simp
    | succ i =>
      have hx : x.toList.length = 17 := by simpa using h17 x (List.mem_cons_self ..)
      rw [List.take_succ_cons, List.flatMap_cons, List.flatMap_cons, ← ih i fun y hy => h17 y (List.mem_cons_of_mem _ hy), List.take_append, List.take_of_length_le (by omega), hx, show (i + 1) * 17 - 17 = i * 17 by omega]
theorem flat_drop (vs : List (Array Value)) (i : Nat) (h17 : ∀ x ∈ vs, x.size = 17) : (vs.flatMap Array.toList).drop (i * 17) = (vs.drop i).flatMap Array.toList := by
  induction vs generalizing i with
  | nil => simp
  | cons x vs ih =>
    cases i with
    | zero => simp
    | succ i =>
      have hx : x.toList.length = 17 := by simpa using h17 x (List.mem_cons_self ..)
      rw [List.drop_succ_cons, List.flatMap_cons, ← ih i fun y hy => h17 y (List.mem_cons_of_mem _ hy), List.drop_append, List.drop_eq_nil_of_le (by omega), hx, show (i + 1) * 17 - 17 = i * 17 by omega, List.nil_append]
theorem flat_len (vs : List (Array Value)) (h17 : ∀ x ∈ vs, x.size = 17) : (vs.flatMap Array.toList).length = vs.length * 17 := by
  induction vs with
  | nil => rfl
  | cons x vs ih =>
    have hx : x.toList.length = 17 := by simpa using h17 x (List.mem_cons_self ..)
    rw [List.flatMap_cons, List.length_append, hx, ih fun y hy => h17 y (List.mem_cons_of_mem _ hy), List.length_cons]; omega
theorem RowsOf.one {S : Nat → Prop} {w : World} {a : Option Addr} {vs : List (Array Value)} {L : List Nd} (h : RowsOf S w a vs L) : ∀ u ∈ vs.flatMap Array.toList, u.oneCell' = true := fun u hu => by
  obtain ⟨x, hx, hux⟩ := List.mem_flatMap.1 hu
  obtain ⟨i, hi, ei⟩ := List.getElem_of_mem hx
  obtain ⟨n2, _, da2, dc2, aa2, ac2, e2, _⟩ := h.each i x (by rw [List.getElem?_eq_getElem hi, ei])
  simp only [Value.agg.injEq] at e2
  have := cells_node n2 da2 aa2 n2.data.length n2.acl.length dc2 ac2
  rw [← e2, ← Array.all_toList] at this
  exact List.all_eq_true.1 this u hux

/-- What a slice's first places show, and what those behind them. -/
theorem RowsOf.src_to {S : Nat → Prop} {w : World} {a : Option Addr} {vs : List (Array Value)} {L : List Nd} (h : RowsOf S w a vs L) {i cap : Nat} (hi : i ≤ L.length) (hS : ∀ k, S k → k < w.heap.size) : Src Tryd.prog 17 22 (.slice a i cap) i ((vs.take i).flatMap Array.toList) w := by
  have h17 : ∀ x ∈ vs.take i, x.size = 17 := fun x hx => h.v17 x (List.mem_of_mem_take hx)
  have hc : Cells w.heap.size w a ((vs.take i).flatMap Array.toList) := fun j u hj => by
    rw [← flat_take vs i h.v17, List.getElem?_take] at hj
    split at hj
    · obtain ⟨b, off, e, hb, hc⟩ := h.cells j u hj
      exact ⟨b, off, e, hS b hb, hc⟩
    · cases hj
  exact hc.src Tryd.underlying22 i cap (by rw [flat_len _ h17, List.length_take, h.len]; congr 1; omega) fun u hu => h.one u (by
    rw [← flat_take vs i h.v17] at hu
    exact List.mem_of_mem_take hu)
theorem RowsOf.src_from {S : Nat → Prop} {w : World} {b off : Nat} {vs : List (Array Value)} {L : List Nd} (h : RowsOf S w (some ⟨b, off, none⟩) vs L) {i cap : Nat} (hi : i ≤ L.length) (hl : L.length ≤ cap) (hS : ∀ k, S k → k < w.heap.size) : Src Tryd.prog 17 22 (.slice (some (if cap = i then ⟨b, off, none⟩ else ⟨b, off + i * 17, none⟩)) (L.length - i) (cap - i)) (L.length - i) ((vs.drop i).flatMap Array.toList) w := by
  have h17 : ∀ x ∈ vs.drop i, x.size = 17 := fun x hx => h.v17 x (List.mem_of_mem_drop hx)
  have hc : Cells w.heap.size w (some (if cap = i then ⟨b, off, none⟩ else ⟨b, off + i * 17, none⟩)) ((vs.drop i).flatMap Array.toList) := fun j u hj => by
    rw [← flat_drop vs i h.v17, List.getElem?_drop] at hj
    obtain ⟨b', off', e, hb, hc⟩ := h.cells (i * 17 + j) u hj
    simp only [Option.some.injEq, Addr.mk.injEq, and_true] at e
    obtain ⟨rfl, rfl⟩ := e
    by_cases hci : cap = i
    · exfalso
      have h1 := (List.getElem?_eq_some_iff.1 hj).1
      rw [flat_len _ h.v17, h.len] at h1
      omega
    · rw [if_neg hci]
      exact ⟨b, off + i * 17, rfl, hS b hb, by rw [Nat.add_assoc]; exact hc⟩
  exact hc.src Tryd.underlying22 _ _ (by rw [flat_len _ h17, List.length_drop, h.len]) fun u hu => h.one u (by
    rw [← flat_drop vs i h.v17] at hu
    exact List.mem_of_mem_drop hu)

theorem wpList_store_one {P : Program} {ops : Array Oper} {rest : List Oper} {o : Oper} {a : Act} {Q : Exit → Act → World → Prop} {w : World} (hgd : o.guard = none) (ty : TypeId) (x y : Operand) (ho : o.op = .store ty x y)
    (g : Nat) (v : Value) (hx : a.eval x = .pointer (some ⟨g, 0, none⟩)) (hy : a.eval y = v) (h1 : v.oneCell' = true) (t : TypeId) (old : Value) (hg : w.heap[g]? = some (.cells #[old] t (0, 0))) (hi : (P.info? ty).map (·.size) = some 1)
    (hK : wpList P ops Q rest (a.put o.dst undef) (w.setRow g #[v])) : wpList P ops Q (o :: rest) a w :=
  wpList_plain hgd fun _ hK' => wp_skipped (run_store_one ty x y ho g v hx hy h1 t old hg hi) (hK' _ _ hK)

def EachN (S : Nat → Prop) (w : World) (vs : List (Array Value)) (L : List Nd) : Prop := vs.length = L.length ∧ ∀ (j : Nat) (cs : Array Value), vs[j]? = some cs → ∃ n, L[j]? = some n ∧ NdS S w (.agg cs) n
theorem EachN.append {S : Nat → Prop} {w : World} {vs vs' : List (Array Value)} {L L' : List Nd} (h : EachN S w vs L) (k : EachN S w vs' L') : EachN S w (vs ++ vs') (L ++ L') := by
  refine ⟨by rw [List.length_append, List.length_append, h.1, k.1], fun j cs hj => ?_⟩
  by_cases hl : j < vs.length
  · rw [List.getElem?_append_left hl] at hj
    rw [List.getElem?_append_left (by rw [← h.1]; exact hl)]
    exact h.2 j cs hj
  · rw [List.getElem?_append_right (by omega)] at hj
    rw [List.getElem?_append_right (by rw [← h.1]; omega), ← h.1]
    exact k.2 _ cs hj
theorem EachN.take {S : Nat → Prop} {w : World} {vs : List (Array Value)} {L : List Nd} (h : EachN S w vs L) (i : Nat) : EachN S w (vs.take i) (L.take i) := by
  refine ⟨by rw [List.length_take, List.length_take, h.1], fun j cs hj => ?_⟩
  rw [List.getElem?_take] at hj ⊢
  split at hj
  · rename_i hlt; rw [if_pos hlt]; exact h.2 j cs hj
  · cases hj
theorem EachN.drop {S : Nat → Prop} {w : World} {vs : List (Array Value)} {L : List Nd} (h : EachN S w vs L) (i : Nat) : EachN S w (vs.drop i) (L.drop i) := by
  refine ⟨by rw [List.length_drop, List.length_drop, h.1], fun j cs hj => ?_⟩
  rw [List.getElem?_drop] at hj ⊢
  exact h.2 _ cs hj
theorem EachN.one {S : Nat → Prop} {w : World} {cs : Array Value} {n : Nd} (h : NdS S w (.agg cs) n) : EachN S w [cs] [n] := by
  refine ⟨rfl, fun j c hj => ?_⟩
  cases j with
  | zero => simp at hj; subst hj; exact ⟨n, rfl, h⟩
  | succ j => simp at hj
theorem grown_of_ext {a b : World} (h : Ext a b) (row : Option Nat) : a.grownBy b row := ⟨h.os, h.tape, h.output, h.size, fun k hk _ => h.block k hk⟩


/-- As an argument's list of nodes. -/
theorem RowsOf.nds {S : Nat → Prop} {w : World} {a : Option Addr} {vs : List (Array Value)} {L : List Nd} (h : RowsOf S w a vs L) {B : Nat} (hS : ∀ k, S k → k < B) : NdsAt B w a L := fun i n hi => by
  obtain ⟨b, off, da, dc, aa, ac, e, hb, hc, hD, hA, _⟩ := h.row hi
  exact ⟨b, off, _, e, hS b hb, ⟨da, dc, aa, ac, rfl, hD.cells hS, hA.cells hS⟩, hc⟩
end Go.Proofs.YtamolbegmkngdaaDoor
namespace Go.Proofs.YtamolbegmkngdaaDoor
open Go.RowKit Go.Sort
set_option maxHeartbeats 4000000
set_option maxRecDepth 100000
attribute [local go_sem] Oper.semAt_some

theorem sorted_nil (w : World) : Calls Tryd.prog 46 #[.pointer none] w fun e w' => e = .returned (.slice none 0 0) ∧ w = w' := by
  go_enter Tryd.func46, Tryd.ntmps46
  go_wp2
  go_ret
  exact ⟨rfl, rfl⟩

def SeqNil (w : World) (e : Ending) (w' : World) : Prop :=
  ∃ bw btb, e = .returned (.func (.func 65) #[] #[.pointer (some ⟨bw, 0, none⟩), .pointer (some ⟨btb, 0, none⟩)]) ∧
    w'.cell? ⟨bw, 0, none⟩ = some (.func (.func 46) #[.pointer none] #[]) ∧ Ext w w'

theorem told_nil (w : World) : Calls Tryd.prog 45 #[.pointer none, .func (.func 46) #[.pointer none] #[]] w (SeqNil w) := by
  have h2 : ∀ t u, ((w.alloc (.cells #[Value.pointer none] t)).alloc (.cells #[Value.func (.func 46) #[.pointer none] #[]] u)).cell? ⟨w.heap.size + 1, 0, none⟩ = some (.func (.func 46) #[.pointer none] #[]) := fun t u =>
    cell_of_row _ _ _ _ _ _ (by have := heap_alloc_new (w.alloc (.cells #[Value.pointer none] t)) (.cells #[Value.func (.func 46) #[.pointer none] #[]] u); rwa [World.size_alloc] at this)
  have H2 := Lib.hid h2
  clear h2
  go_enter Tryd.func45, Tryd.ntmps45
  go_wp2
  go_ret
  exact ⟨_, _, rfl, H2.out _ _, (Ext.alloc w _).trans (Ext.alloc _ _)⟩

theorem tall_nil (w : World) : Calls Tryd.prog 25 #[.pointer none] w (SeqNil w) := by
  have C1 := told_nil w
  go_enter Tryd.func25, Tryd.ntmps25
  go_wp2_with fail
  refine C1.mono ?_
  rintro e w1 ⟨bw, btb, rfl, h1, hE⟩
  have hfin : SeqNil w (.returned (.func (.func 65) #[] #[.pointer (some ⟨bw, 0, none⟩), .pointer (some ⟨btb, 0, none⟩)])) w1 := ⟨_, _, rfl, h1, hE⟩
  have HFIN := Lib.hid hfin
  clear hfin h1 hE C1
  go_wp2
  go_ret
  exact HFIN.out

/-- Nothing is told of a nil tree. -/
theorem told_tells_nil (Safe : World → Nat → Prop) (w : World) (bw btb fw : Nat) (bnd cap : Array Value)
    (hcw : w.cell? ⟨bw, 0, none⟩ = some (.func (.func fw) bnd cap)) (hen : ∀ args w, (callFunc fw args).run Tryd.prog w = .ok (.enter fw args) w) (hw : ∀ W, Ext w W → Calls Tryd.prog fw (bnd ++ cap) W fun e w' => e = .returned (.slice none 0 0) ∧ Ext W w') :
    Tells Fence.wide 5 Tryd.prog 65 #[.pointer (some ⟨bw, 0, none⟩), .pointer (some ⟨btb, 0, none⟩)] (fun x : Value × Nd => #[x.1]) (GS Safe) (KeepS Safe) Safe (fun xs => xs.map (·.2) = []) (fun pre => ∃ rest, pre.map (·.2) ++ rest = []) w := by
  intro l J Jx W hW hSW hJ hY h0
  refine callsIn_wide.2 ?_
  have hcwW : W.cell? ⟨bw, 0, none⟩ = some (.func (.func fw) bnd cap) := (hW.cell (p := ⟨bw, 0, none⟩) (World.block_lt_of_cell? _ _ hcw)).trans hcw
  have CW := hw W hW
  have HJ := Lib.hid hJ
  have CW := Lib.hid CW
  clear hcw hw hY hJ hSW
  go_enter Tryd.func65, Tryd.ntmps65
  go_wp2_with fail
  refine CW.out.mono ?_
  rintro e W1 ⟨rfl, hE1⟩
  have hJ1 := (HJ.out [] W W1 h0 hE1).1
  have HJ1 := Lib.hid hJ1
  clear CW hcwW hJ1 h0 hE1
  go_wp2
  go_loopw [4, 12] (fun lv i wr => lv = .slice none 0 0 ∧ i = .int .i64 0 ∧ wr = W1) (fun _ _ _ => 0)
  case atStart => exact ⟨rfl, rfl, rfl⟩
  case round =>
    obtain ⟨rfl, rfl, rfl⟩ := hrel
    go_wp2
    go_loopw [28] (fun i wt => i = .int .i64 0 ∧ wt = wr) (fun _ _ => 0)
    case atStart => exact ⟨rfl, rfl⟩
    case round =>
      obtain ⟨rfl, rfl⟩ := hrel
      go_wp2
      exact ⟨rfl, _, results_none rfl _ _ _, ⟨_, rfl⟩, .inl ⟨[], rfl, HJ1.out⟩⟩

theorem dof_nil (w : World) : Calls Tryd.prog 17 #[.pointer none] w fun e w' => e = .returned (.int .u64 0) ∧ Ext w w' := by
  obtain ⟨W0, hW0⟩ : ∃ W0, W0 = w.alloc (.cells #[.int .u64 0] 50) := ⟨_, rfl⟩
  have hE0 : Ext w W0 := by rw [hW0]; exact Ext.alloc _ _
  have hz0 : W0.heap.size = w.heap.size + 1 := by rw [hW0]; simp
  have hg0 : W0.heap[w.heap.size]? = some (.cells #[.int .u64 0] 50 (0, 0)) := by rw [hW0]; exact heap_alloc_new w _
  have C1 := Lib.hid (tall_nil W0)
  have HW0 := Lib.hid hW0
  have HE0 := Lib.hid hE0
  have HG0 := Lib.hid hg0
  clear hW0 hE0 hg0
  refine (callsIn_wide (n := 6)).1 (callsIn_of_wp_marks Tryd.func17 rfl trivial ?_)
  simp only [Tryd.ntmps17, List.size_toArray, List.length_cons, List.length_nil, Nat.reduceAdd, Nat.reduceSub, Array.replicate_succ, Array.replicate_zero, List.push_toArray, List.append_toArray, List.nil_append, List.cons_append]
  gi_wp2_with fail
  rw [← HW0.out]
  refine ⟨trivial, (callsIn_wide.2 C1.out).mono ?_⟩
  rintro e W1 ⟨bw, btb, rfl, hcw, hE1⟩
  have hz1 := hE1.size
  have hE01 := HE0.out.trans hE1
  have hg1 := (hE1.block _ (Array.getElem?_eq_some_iff.1 HG0.out).1).trans HG0.out
  have TT := told_tells_nil (fun _ k => k ≠ w.heap.size) W1 bw btb 46 #[.pointer none] #[] hcw (enters_of Tryd.func46 (by kernel_rfl) rfl)
    (fun W _ => (show Calls Tryd.prog 46 #[.pointer none] W _ from (sorted_nil W).mono fun e w' h => by obtain ⟨rfl, rfl⟩ := h; exact ⟨rfl, Ext.refl _⟩))
  have hI0 : OfI w W1 [] W1 := ⟨hg1, Nat.le_refl _, hE01⟩
  have hnn := told_not_nil #[.pointer (some ⟨bw, 0, none⟩), .pointer (some ⟨btb, 0, none⟩)] W1
  have TT := Lib.hid TT
  have HI0 := Lib.hid hI0
  clear hcw hE1 hE01 hg1 hI0 C1
  gi_wp2
  refine wpIn_tells_nd (Safe := fun _ k => k ≠ w.heap.size) (by omega) (gf := 65) (lb := #[.pointer (some ⟨bw, 0, none⟩), .pointer (some ⟨btb, 0, none⟩)]) rfl (enters_of Tryd.func65 (by kernel_rfl) rfl) TT.out (show 7 < 13 by decide) (show 4 < 13 by decide) (by decide)
    (OfI w W1) (fun _ _ _ => False) (fun _ _ _ _ h => h) ?hI ?hIx HI0.out ?body ?done ?stop
  case hI =>
    rintro pre X Y ⟨h1, h2, h3⟩ hTn
    exact ⟨⟨hTn.cells h1, Nat.le_trans h2 hTn.size, h3.trans (hTn.below (by omega) h3.size)⟩, fun k hk => by omega⟩
  case hIx => exact fun _ _ _ _ h _ => h
  case stop => exact fun _ _ _ _ _ _ h => h.elim
  case body =>
    rintro l pre n da dc aa ac bl W hl0 hrec ⟨rest, hSp⟩ _ hG hbl
    exfalso
    simp at hSp
  case done =>
    rintro D xs W hD hS ⟨hbx, hsz, hEw⟩ hK
    have hfin : Ext w (W.putObj D (.deferred none)) := hEw.trans ((Turn.putObj (B := W1.heap.size) (.deferred none) hD hK rfl).below (by omega) hEw.size)
    have hv : W.cell? ⟨w.heap.size, 0, none⟩ = some (.int .u64 (addN 0 (xs.map (·.2)))) := cell_of_row _ _ _ _ _ _ hbx
    rw [hS] at hv
    have HFIN := Lib.hid hfin
    have HK := Lib.hid hK
    clear hfin hK hS TT HI0 hbx
    gi_wp2
    refine ⟨by simp, .inl ⟨_, _, rfl, run_takeDeferred HK.out, ?_⟩⟩
    refine ⟨_, results_tmp rfl _ _ _, ?_⟩
    exact ⟨rfl, HFIN.out⟩
end Go.Proofs.YtamolbegmkngdaaDoor
namespace Go.Proofs.YtamolbegmkngdaaDoor
open Go.RowKit Go.Sort
set_option maxHeartbeats 4000000
set_option maxRecDepth 100000

/-- A slice's nodes, in blocks of a set. -/
def NdsS (S : Nat → Prop) (w : World) (a : Option Addr) (L : List Nd) : Prop :=
  ∀ (i : Nat) (n : Nd), L[i]? = some n → ∃ b off v, a = some ⟨b, off, none⟩ ∧ S b ∧ NdS S w v n ∧ ∀ (j : Nat) (u : Value), v.cells[j]? = some u → w.cell? ⟨b, off + i * 17 + j, none⟩ = some u
theorem NdsS.imp {S S' : Nat → Prop} {w w' : World} {a : Option Addr} {L : List Nd} (h : NdsS S w a L) (hS : ∀ b, S b → S' b) (hw : ∀ k, S k → w'.heap[k]? = w.heap[k]?) : NdsS S' w' a L := fun i n hi => by
  obtain ⟨b, off, v, e, hb, hN, hc⟩ := h i n hi
  exact ⟨b, off, v, e, hS b hb, NdS.imp hN hS fun b o u hb hu => (World.cell?_of_block (hw b hb)).trans hu, fun j u hj => (World.cell?_of_block (hw b hb)).trans (hc j u hj)⟩
theorem RowsOf.ndsS {S : Nat → Prop} {w : World} {a : Option Addr} {vs : List (Array Value)} {L : List Nd} (h : RowsOf S w a vs L) : NdsS S w a L := fun i n hi => by
  obtain ⟨b, off, da, dc, aa, ac, e, hb, hc, hD, hA, _⟩ := h.row hi
  exact ⟨b, off, _, e, hb, ⟨da, dc, aa, ac, rfl, hD, hA⟩, hc⟩

theorem NdsS.nds {S : Nat → Prop} {w : World} {a : Option Addr} {L : List Nd} (h : NdsS S w a L) {B : Nat} (hS : ∀ k, S k → k < B) : NdsAt B w a L := fun i n hi => by
  obtain ⟨b, off, v, e, hb, hN, hc⟩ := h i n hi
  exact ⟨b, off, v, e, hS b hb, hN.ndv hS, hc⟩

theorem value_nil (w : World) : Calls Tryd.prog 24 #[.pointer none] w fun e w' => e = .returned (.int .u64 0) ∧ w = w' := by
  go_enter Tryd.func24, Tryd.ntmps24
  go_wp2
  go_ret
  exact ⟨rfl, rfl⟩
theorem turn_nil (aA aB : Option Addr) (lA lB cA cB : Nat) (w : World) : Calls Tryd.prog 21 #[.pointer none, .slice aA lA cA, .slice aB lB cB] w fun e w' => e = .returned (.tuple #[]) ∧ w = w' := by
  go_enter Tryd.func21, Tryd.ntmps21
  go_wp2
  exact ⟨rfl, _, results_none rfl _ _ _, ⟨rfl, rfl⟩⟩
theorem begin_nil (w : World) : Calls Tryd.prog 18 #[.pointer none] w (BeginOut 0 w) := by
  have C1 := Lib.hid (dof_nil w)
  go_enter Tryd.func18, Tryd.ntmps18
  go_wp2_with fail
  refine C1.out.mono ?_
  rintro e W1 ⟨rfl, hE1⟩
  have hfin : BeginOut 0 w (.returned (.pointer (some ⟨W1.heap.size, 0, none⟩))) (W1.alloc (.cells #[.int .u64 0] 89)) := ⟨W1.heap.size, rfl, hE1.size, heap_alloc_new _ _, hE1.trans (Ext.alloc _ _)⟩
  have HFIN := Lib.hid hfin
  clear hfin hE1 C1
  go_wp2
  go_ret
  exact HFIN.out

theorem turn_any_s (S : Nat → Prop) (br : Nat) (v : Int) (A B : List Nd) (aA aB : Option Addr) (cA cB : Nat) (w : World) (hr : RunAt w br v) (hT : Tabs w) (hA : NdsS S w aA A) (hB : NdsS S w aB B) (hfA : ∀ n ∈ A, Fit n) (hfB : ∀ n ∈ B, Fit n) (h2 : 2 ≤ br) (hS : ∀ k, S k → k ≠ br ∧ k < w.heap.size)
    (hlA : A.length ≤ 9223372036854775807) (hlB : B.length ≤ 9223372036854775807) :
    Calls Tryd.prog 21 #[.pointer (some ⟨br, 0, none⟩), .slice aA A.length cA, .slice aB B.length cB] w (TurnOut br (addN (subN v A) B) w) := by
  have HA := Lib.hid hA
  have HB := Lib.hid hB
  have HFA := Lib.hid hfA
  have HFB := Lib.hid hfB
  have HT := Lib.hid hT
  have HSb := Lib.hid hS
  have hwsz := hT.size
  clear hA hB hfA hfB hT hS
  go_enter Tryd.func21, Tryd.ntmps21
  go_wp2
  go_loopw [14] (fun i wr => ∃ k : Nat, k ≤ A.length ∧ i = .int .i64 k ∧ RunAt wr br (subN (v) (A.take k)) ∧ But br w wr) (fun i _ => A.length - (intOf i).toNat)
  case atStart => exact ⟨0, Nat.zero_le _, rfl, by simpa [subN] using hr, But.refl _ _⟩
  case round =>
    obtain ⟨k, hk, rfl, hR, hU⟩ := hrel
    by_cases hlt : k < A.length
    · have hLk : A[k]? = some A[k] := List.getElem?_eq_getElem hlt
      have hfk := HFA.out A[k] (List.getElem_mem hlt)
      have HS := Lib.hid (subN_take (v) A k hlt)
      obtain ⟨b, off, vv, rfl, hb, hv, hc⟩ := HA.out k A[k] hLk
      generalize A[k] = n at *
      obtain ⟨da, dc, aa, ac, rfl, hD, hAc⟩ := hv
      have hSw : ∀ k, S k → wr.heap[k]? = w.heap[k]? := fun k hk => hU.same k (HSb.out k hk).2 (HSb.out k hk).1
      have hcw : ∀ j u, (ndC n (.slice da n.data.length dc) (.slice aa n.acl.length ac))[j]? = some u → wr.cell? ((⟨b, off + k * 17, none⟩ : Addr).add j) = some u := fun j u hj => by
        rw [addr_add]
        exact (World.cell?_of_block (hSw b hb)).trans (hc j u hj)
      obtain ⟨W2, hW2⟩ : ∃ W2, W2 = wr.alloc (.cells (ndC n (.slice da n.data.length dc) (.slice aa n.acl.length ac)) 37) := ⟨_, rfl⟩
      have he2 : Ext wr W2 := by rw [hW2]; exact Ext.alloc _ _
      have hDW := ((hD.imp (fun _ hb => hb) fun b o u hb hu => (World.cell?_of_block (hSw b hb)).trans hu).cells (fun b hb => Nat.lt_of_lt_of_le (HSb.out b hb).2 hU.size)).ext he2
      have hAW := ((hAc.imp (fun _ hb => hb) fun b o u hb hu => (World.cell?_of_block (hSw b hb)).trans hu).cells (fun b hb => Nat.lt_of_lt_of_le (HSb.out b hb).2 hU.size)).ext he2
      have hTW : Tabs W2 := HT.out.below ((hU.below h2 hwsz).trans (he2.mono (Nat.le_trans hwsz hU.size))) (Nat.le_refl _)
      have hU2 : But br w W2 := hU.trans (But.of_ext he2)
      have hR2 : RunAt W2 br (subN (v) (A.take k)) := (he2.block br (Array.getElem?_eq_some_iff.1 hR).1).trans hR
      have hbl : W2.heap[wr.heap.size]? = some (.cells (ndC n (.slice da n.data.length dc) (.slice aa n.acl.length ac)) 37 (0, 0)) := by rw [hW2]; exact heap_alloc_new wr _
      generalize subN (v) (A.take k) = s at *
      have hs : W2.cell? ⟨br, 0, none⟩ = some (.int .u64 s) := cell_of_row _ _ _ _ _ _ hR2
      have HSET := Lib.hid ((setRow_alloc wr zeroNd (ndC n (.slice da n.data.length dc) (.slice aa n.acl.length ac)) 37).trans hW2.symm)
      have HNew := Lib.hid (heap_alloc_new wr (.cells zeroNd 37))
      have HC := Lib.hid hcw
      have HBL := Lib.hid hbl
      have HSs := Lib.hid hs
      have HDW := Lib.hid hDW
      have HAW := Lib.hid hAW
      have HTW := Lib.hid hTW
      have HU2 := Lib.hid hU2
      have HR2 := Lib.hid hR2
      unfold ndC at HSET HC
      unfold zeroNd at HSET HNew
      clear hcw hbl hs hDW hAW hTW hU2 hR2 hW2 he2 hR hU hSw hc hD hAc hLk
      go_wp2_with (first | (refine wpList_load_at rfl 37 (.tmp 16) rfl _ rfl _ _ HC.out Tryd.underlying37 rfl sizeNd ?_) | (refine wpList_store_row rfl 37 (.tmp 7) (.tmp 17) rfl wr.heap.size _ rfl rfl 37 _ HNew.out sizeNd rfl (cells_node n da aa _ _ dc ac) ?_; rw [HSET.out]))
      have hbl := HBL.out
      have hs := HSs.out
      have hDW := HDW.out
      have hAW := HAW.out
      have hTW := HTW.out
      refine wp_region_P (by kernel_rfl) (region_store_vals 44 [.pointer (some ⟨br, 0, none⟩), .pointer (some ⟨br, 0, none⟩), .pointer (some ⟨br, 0, none⟩), .int .u64 s, .agg (ndC n (.slice da n.data.length dc) (.slice aa n.acl.length ac)), .int .u64 (nodeN n), .int .u64 (IntKind.u64.wrap (s - nodeN n)), .pointer (some ⟨br, 0, none⟩), .pointer (some ⟨br, 0, none⟩)] 9 _ rfl rfl rfl rfl rfl (by decide) rfl ?duties ?last)
      case duties =>
            refine ⟨?_, ?_, ?_, ?_, ?_, ?_, ?_, ?_, ?_, trivial⟩
            · refine duty_free rfl fun a w' hE hF hA => ?_
              have x1 := hF.slot 0 _ (by decide) rfl
              exact wp_value (w' := w') (v := .pointer (some ⟨br, 0, none⟩)) (by simp only [execOp, x1]; simp [go_sem]) ⟨_, rfl, rfl, Ext.refl _⟩
            · refine duty_free rfl fun a w' hE hF hA => ?_
              have x1 := hA.val 0 18 rfl rfl ⟨⟨0, .data⟩, by simp, rfl, rfl⟩ rfl
              exact wp_value (w' := w') (v := .pointer (some ⟨br, 0, none⟩)) (by simp only [execOp, x1]; simp [go_sem]) ⟨_, rfl, rfl, Ext.refl _⟩
            · refine duty_free rfl fun a w' hE hF hA => ?_
              have x1 := hA.val 1 19 rfl rfl ⟨⟨1, .data⟩, by simp, rfl, rfl⟩ rfl
              exact wp_value (w' := w') (v := .pointer (some ⟨br, 0, none⟩)) (by simp only [execOp, x1]; simp [go_sem]) ⟨_, rfl, rfl, Ext.refl _⟩
            · refine duty_free rfl fun a w' hE hF hA => ?_
              have x1 := hA.val 2 20 rfl rfl ⟨⟨2, .data⟩, by simp, rfl, rfl⟩ rfl
              exact wp_value (ex_cell rfl _ _ x1 ((hE.cell (World.block_lt_of_cell? _ _ hs)).trans hs) rfl Tryd.underlying50) ⟨_, rfl, rfl, Ext.refl _⟩
            · refine duty_free rfl fun a w' hE hF hA => ?_
              have x1 := hF.slot 7 _ (by decide) rfl
              exact wp_value (ex_load_row rfl _ x1 37 _ (0, 0) _ ((hE.block _ (Array.getElem?_eq_some_iff.1 hbl).1).trans hbl) Tryd.underlying37 rfl sizeNd) ⟨_, rfl, rfl, Ext.refl _⟩
            · refine duty_free rfl fun a w' hE hF hA => ?_
              have x1 := hA.val 4 22 rfl rfl ⟨⟨4, .data⟩, by simp, rfl, rfl⟩ rfl
              refine wp_enter (ex_call rfl (enters_f Tryd.func42 (by kernel_rfl) rfl)) (by simp only [List.map_toArray, List.map_cons, List.map_nil, x1]; exact node_any n da aa dc ac w' hfk (hTW.below hE hTW.size) (hDW.ext hE) (hAW.ext hE)) ?_
              rintro e w4 ⟨rfl, hb⟩
              exact ⟨_, rfl, _, rfl, rfl, hb⟩
            · refine duty_free rfl fun a w' hE hF hA => ?_
              have x1 := hA.val 3 21 rfl rfl ⟨⟨3, .data⟩, by simp, rfl, rfl⟩ rfl
              have x2 := hA.val 5 23 rfl rfl ⟨⟨5, .data⟩, by simp, rfl, rfl⟩ rfl
              exact wp_value (w' := w') (v := .int .u64 (IntKind.u64.wrap (s - nodeN n))) (by simp only [execOp, x1, x2]; simp [go_sem]) ⟨_, rfl, rfl, Ext.refl _⟩
            · refine duty_free rfl fun a w' hE hF hA => ?_
              have x1 := hA.val 0 18 rfl rfl ⟨⟨0, .data⟩, by simp, rfl, rfl⟩ rfl
              exact wp_value (w' := w') (v := .pointer (some ⟨br, 0, none⟩)) (by simp only [execOp, x1]; simp [go_sem]) ⟨_, rfl, rfl, Ext.refl _⟩
            · refine duty_free rfl fun a w' hE hF hA => ?_
              have x1 := hA.val 7 25 rfl rfl ⟨⟨7, .data⟩, by simp, rfl, rfl⟩ rfl
              exact wp_value (w' := w') (v := .pointer (some ⟨br, 0, none⟩)) (by simp only [execOp, x1]; simp [go_sem]) ⟨_, rfl, rfl, Ext.refl _⟩
      case last =>
        intro W8 hE8
        have hR8 : RunAt W8 br s := (hE8.block br (Array.getElem?_eq_some_iff.1 HR2.out).1).trans HR2.out
        have hU8 := (HU2.out.trans (But.of_ext hE8)).trans (But.set br W8 #[.int .u64 (IntKind.u64.wrap (s - nodeN n))])
        have hR9 : RunAt (W8.setRow br #[.int .u64 (IntKind.u64.wrap (s - nodeN n))]) br (IntKind.u64.wrap (s - nodeN n)) := setRow_heap _ _ _ _ _ _ hR8
        have HR9 := Lib.hid hR9
        have HU8 := Lib.hid hU8
        have HR8 := Lib.hid hR8
        clear hbl hs hDW hAW hTW hR9 hU8 hR8 HBL HSs HDW HAW HTW HU2 HR2 HC HSET HNew
        simp only [filled, List.take_succ_cons, List.take_zero, List.zip_cons_cons, List.zip_nil_left, List.foldl_cons, List.foldl_nil, Act.put, List.setIfInBounds_toArray, List.set_cons_succ, List.set_cons_zero]
        refine wp_skipped (w' := W8.setRow br #[.int .u64 (IntKind.u64.wrap (s - nodeN n))]) (by refine run_store_one 50 (.tmp 26) (.tmp 24) ?_ br (.int .u64 (IntKind.u64.wrap (s - nodeN n))) ?_ ?_ ?_ 89 (.int .u64 s) HR8.out infoU64 <;> rfl) ?_
        simp only [Exit.inBlock, Exit.then, Act.put]
        rename_i hK
        refine hK _ _ ?_
        go_wp2
        go_roundw
        case rel => exact ⟨k + 1, by omega, by go_num, by rw [HS.out]; exact HR9.out, HU8.out⟩
        case measure => simp [intOf]; omega
    · obtain rfl : k = A.length := by omega
      rw [List.take_length] at hR
      go_wp2
      go_loopw [30] (fun i wr => ∃ k : Nat, k ≤ B.length ∧ i = .int .i64 k ∧ RunAt wr br (addN (subN v A) (B.take k)) ∧ But br w wr) (fun i _ => B.length - (intOf i).toNat)
      case atStart => exact ⟨0, Nat.zero_le _, rfl, by simpa [addN] using hR, hU⟩
      case round =>
        obtain ⟨k, hk, rfl, hR, hU⟩ := hrel
        by_cases hlt : k < B.length
        · have hLk : B[k]? = some B[k] := List.getElem?_eq_getElem hlt
          have hfk := HFB.out B[k] (List.getElem_mem hlt)
          have HS := Lib.hid (addN_take (subN v A) B k hlt)
          obtain ⟨b, off, vv, rfl, hb, hv, hc⟩ := HB.out k B[k] hLk
          generalize B[k] = n at *
          obtain ⟨da, dc, aa, ac, rfl, hD, hAc⟩ := hv
          have hSw : ∀ k, S k → wr.heap[k]? = w.heap[k]? := fun k hk => hU.same k (HSb.out k hk).2 (HSb.out k hk).1
          have hcw : ∀ j u, (ndC n (.slice da n.data.length dc) (.slice aa n.acl.length ac))[j]? = some u → wr.cell? ((⟨b, off + k * 17, none⟩ : Addr).add j) = some u := fun j u hj => by
            rw [addr_add]
            exact (World.cell?_of_block (hSw b hb)).trans (hc j u hj)
          obtain ⟨W2, hW2⟩ : ∃ W2, W2 = wr.alloc (.cells (ndC n (.slice da n.data.length dc) (.slice aa n.acl.length ac)) 37) := ⟨_, rfl⟩
          have he2 : Ext wr W2 := by rw [hW2]; exact Ext.alloc _ _
          have hDW := ((hD.imp (fun _ hb => hb) fun b o u hb hu => (World.cell?_of_block (hSw b hb)).trans hu).cells (fun b hb => Nat.lt_of_lt_of_le (HSb.out b hb).2 hU.size)).ext he2
          have hAW := ((hAc.imp (fun _ hb => hb) fun b o u hb hu => (World.cell?_of_block (hSw b hb)).trans hu).cells (fun b hb => Nat.lt_of_lt_of_le (HSb.out b hb).2 hU.size)).ext he2
          have hTW : Tabs W2 := HT.out.below ((hU.below h2 hwsz).trans (he2.mono (Nat.le_trans hwsz hU.size))) (Nat.le_refl _)
          have hU2 : But br w W2 := hU.trans (But.of_ext he2)
          have hR2 : RunAt W2 br (addN (subN v A) (B.take k)) := (he2.block br (Array.getElem?_eq_some_iff.1 hR).1).trans hR
          have hbl : W2.heap[wr.heap.size]? = some (.cells (ndC n (.slice da n.data.length dc) (.slice aa n.acl.length ac)) 37 (0, 0)) := by rw [hW2]; exact heap_alloc_new wr _
          generalize addN (subN v A) (B.take k) = s at *
          have hs : W2.cell? ⟨br, 0, none⟩ = some (.int .u64 s) := cell_of_row _ _ _ _ _ _ hR2
          have HSET := Lib.hid ((setRow_alloc wr zeroNd (ndC n (.slice da n.data.length dc) (.slice aa n.acl.length ac)) 37).trans hW2.symm)
          have HNew := Lib.hid (heap_alloc_new wr (.cells zeroNd 37))
          have HC := Lib.hid hcw
          have HBL := Lib.hid hbl
          have HSs := Lib.hid hs
          have HDW := Lib.hid hDW
          have HAW := Lib.hid hAW
          have HTW := Lib.hid hTW
          have HU2 := Lib.hid hU2
          have HR2 := Lib.hid hR2
          unfold ndC at HSET HC
          unfold zeroNd at HSET HNew
          clear hcw hbl hs hDW hAW hTW hU2 hR2 hW2 he2 hR hU hSw hc hD hAc hLk
          go_wp2_with (first | (refine wpList_load_at rfl 37 (.tmp 32) rfl _ rfl _ _ HC.out Tryd.underlying37 rfl sizeNd ?_) | (refine wpList_store_row rfl 37 (.tmp 9) (.tmp 33) rfl wr.heap.size _ rfl rfl 37 _ HNew.out sizeNd rfl (cells_node n da aa _ _ dc ac) ?_; rw [HSET.out]))
          have hbl := HBL.out
          have hs := HSs.out
          have hDW := HDW.out
          have hAW := HAW.out
          have hTW := HTW.out
          refine wp_region_P (by kernel_rfl) (region_store_vals 44 [.pointer (some ⟨br, 0, none⟩), .pointer (some ⟨br, 0, none⟩), .pointer (some ⟨br, 0, none⟩), .int .u64 s, .agg (ndC n (.slice da n.data.length dc) (.slice aa n.acl.length ac)), .int .u64 (nodeN n), .int .u64 (IntKind.u64.wrap (s + nodeN n)), .pointer (some ⟨br, 0, none⟩), .pointer (some ⟨br, 0, none⟩)] 9 _ rfl rfl rfl rfl rfl (by decide) rfl ?duties ?last)
          case duties =>
                refine ⟨?_, ?_, ?_, ?_, ?_, ?_, ?_, ?_, ?_, trivial⟩
                · refine duty_free rfl fun a w' hE hF hA => ?_
                  have x1 := hF.slot 0 _ (by decide) rfl
                  exact wp_value (w' := w') (v := .pointer (some ⟨br, 0, none⟩)) (by simp only [execOp, x1]; simp [go_sem]) ⟨_, rfl, rfl, Ext.refl _⟩
                · refine duty_free rfl fun a w' hE hF hA => ?_
                  have x1 := hA.val 0 34 rfl rfl ⟨⟨0, .data⟩, by simp, rfl, rfl⟩ rfl
                  exact wp_value (w' := w') (v := .pointer (some ⟨br, 0, none⟩)) (by simp only [execOp, x1]; simp [go_sem]) ⟨_, rfl, rfl, Ext.refl _⟩
                · refine duty_free rfl fun a w' hE hF hA => ?_
                  have x1 := hA.val 1 35 rfl rfl ⟨⟨1, .data⟩, by simp, rfl, rfl⟩ rfl
                  exact wp_value (w' := w') (v := .pointer (some ⟨br, 0, none⟩)) (by simp only [execOp, x1]; simp [go_sem]) ⟨_, rfl, rfl, Ext.refl _⟩
                · refine duty_free rfl fun a w' hE hF hA => ?_
                  have x1 := hA.val 2 36 rfl rfl ⟨⟨2, .data⟩, by simp, rfl, rfl⟩ rfl
                  exact wp_value (ex_cell rfl _ _ x1 ((hE.cell (World.block_lt_of_cell? _ _ hs)).trans hs) rfl Tryd.underlying50) ⟨_, rfl, rfl, Ext.refl _⟩
                · refine duty_free rfl fun a w' hE hF hA => ?_
                  have x1 := hF.slot 9 _ (by decide) rfl
                  exact wp_value (ex_load_row rfl _ x1 37 _ (0, 0) _ ((hE.block _ (Array.getElem?_eq_some_iff.1 hbl).1).trans hbl) Tryd.underlying37 rfl sizeNd) ⟨_, rfl, rfl, Ext.refl _⟩
                · refine duty_free rfl fun a w' hE hF hA => ?_
                  have x1 := hA.val 4 38 rfl rfl ⟨⟨4, .data⟩, by simp, rfl, rfl⟩ rfl
                  refine wp_enter (ex_call rfl (enters_f Tryd.func42 (by kernel_rfl) rfl)) (by simp only [List.map_toArray, List.map_cons, List.map_nil, x1]; exact node_any n da aa dc ac w' hfk (hTW.below hE hTW.size) (hDW.ext hE) (hAW.ext hE)) ?_
                  rintro e w4 ⟨rfl, hb⟩
                  exact ⟨_, rfl, _, rfl, rfl, hb⟩
                · refine duty_free rfl fun a w' hE hF hA => ?_
                  have x1 := hA.val 3 37 rfl rfl ⟨⟨3, .data⟩, by simp, rfl, rfl⟩ rfl
                  have x2 := hA.val 5 39 rfl rfl ⟨⟨5, .data⟩, by simp, rfl, rfl⟩ rfl
                  exact wp_value (w' := w') (v := .int .u64 (IntKind.u64.wrap (s + nodeN n))) (by simp only [execOp, x1, x2]; simp [go_sem]) ⟨_, rfl, rfl, Ext.refl _⟩
                · refine duty_free rfl fun a w' hE hF hA => ?_
                  have x1 := hA.val 0 34 rfl rfl ⟨⟨0, .data⟩, by simp, rfl, rfl⟩ rfl
                  exact wp_value (w' := w') (v := .pointer (some ⟨br, 0, none⟩)) (by simp only [execOp, x1]; simp [go_sem]) ⟨_, rfl, rfl, Ext.refl _⟩
                · refine duty_free rfl fun a w' hE hF hA => ?_
                  have x1 := hA.val 7 41 rfl rfl ⟨⟨7, .data⟩, by simp, rfl, rfl⟩ rfl
                  exact wp_value (w' := w') (v := .pointer (some ⟨br, 0, none⟩)) (by simp only [execOp, x1]; simp [go_sem]) ⟨_, rfl, rfl, Ext.refl _⟩
          case last =>
            intro W8 hE8
            have hR8 : RunAt W8 br s := (hE8.block br (Array.getElem?_eq_some_iff.1 HR2.out).1).trans HR2.out
            have hU8 := (HU2.out.trans (But.of_ext hE8)).trans (But.set br W8 #[.int .u64 (IntKind.u64.wrap (s + nodeN n))])
            have hR9 : RunAt (W8.setRow br #[.int .u64 (IntKind.u64.wrap (s + nodeN n))]) br (IntKind.u64.wrap (s + nodeN n)) := setRow_heap _ _ _ _ _ _ hR8
            have HR9 := Lib.hid hR9
            have HU8 := Lib.hid hU8
            have HR8 := Lib.hid hR8
            clear hbl hs hDW hAW hTW hR9 hU8 hR8 HBL HSs HDW HAW HTW HU2 HR2 HC HSET HNew
            simp only [filled, List.take_succ_cons, List.take_zero, List.zip_cons_cons, List.zip_nil_left, List.foldl_cons, List.foldl_nil, Act.put, List.setIfInBounds_toArray, List.set_cons_succ, List.set_cons_zero]
            refine wp_skipped (w' := W8.setRow br #[.int .u64 (IntKind.u64.wrap (s + nodeN n))]) (by refine run_store_one 50 (.tmp 42) (.tmp 40) ?_ br (.int .u64 (IntKind.u64.wrap (s + nodeN n))) ?_ ?_ ?_ 89 (.int .u64 s) HR8.out infoU64 <;> rfl) ?_
            simp only [Exit.inBlock, Exit.then, Act.put]
            rename_i hK
            refine hK _ _ ?_
            go_wp2
            go_roundw
            case rel => exact ⟨k + 1, by omega, by go_num, by rw [HS.out]; exact HR9.out, HU8.out⟩
            case measure => simp [intOf]; omega
        · obtain rfl : k = B.length := by omega
          rw [List.take_length] at hR
          have hfin : TurnOut br (addN (subN v A) B) w (.returned (.tuple #[])) wr := ⟨rfl, hR, hU⟩
          have HFIN := Lib.hid hfin
          clear hfin hR hU
          go_wp2
          exact ⟨rfl, _, results_none rfl _ _ _, HFIN.out⟩


end Go.Proofs.YtamolbegmkngdaaDoor
