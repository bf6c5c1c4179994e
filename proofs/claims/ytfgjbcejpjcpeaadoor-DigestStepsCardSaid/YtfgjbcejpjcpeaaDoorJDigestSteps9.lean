/- The walks of Turn and Value: a number that is carried along. The walk of layer 9's alive; the first note in a book. The walk of layer 9's alive. The law DigestSteps, walked. -/
import Derived.Test.YtfgjbcejpjcpeaaDoorJDigestSteps8
namespace Go.Proofs.YtfgjbcejpjcpeaaDoor
open Go.RowKit Go.Sort
set_option maxHeartbeats 4000000
set_option maxRecDepth 100000

/-- A running number in memory. -/
def RunAt (w : World) (br : Nat) (v : Int) : Prop := w.heap[br]? = some (.cells #[.int .u64 v] 103 (0, 0))

/-- All is as it was, but for one block. -/
structure But (r : Nat) (w w' : World) : Prop where
  os : w'.os = w.os
  tape : w'.tape = w.tape
  output : w'.output = w.output
  size : w.heap.size ≤ w'.heap.size
  same : ∀ k, k < w.heap.size → k ≠ r → w'.heap[k]? = w.heap[k]?
theorem But.refl (r : Nat) (w : World) : But r w w := ⟨rfl, rfl, rfl, Nat.le_refl _, fun _ _ _ => rfl⟩
theorem But.trans {r : Nat} {a b c : World} (h : But r a b) (k : But r b c) : But r a c :=
  ⟨k.os.trans h.os, k.tape.trans h.tape, k.output.trans h.output, Nat.le_trans h.size k.size, fun i hi hn => (k.same i (Nat.lt_of_lt_of_le hi h.size) hn).trans (h.same i hi hn)⟩
theorem But.of_ext {r : Nat} {a b : World} (h : Ext a b) : But r a b := ⟨h.os, h.tape, h.output, h.size, fun k hk _ => h.block k hk⟩
theorem But.set (r : Nat) (w : World) (cs : Array Value) : But r w (w.setRow r cs) := ⟨rfl, rfl, rfl, by simp, fun _ _ hn => setRow_other _ _ _ _ hn⟩
theorem But.below {r B : Nat} {w w' : World} (h : But r w w') (hB : B ≤ r) (hs : B ≤ w.heap.size) : Below B w w' :=
  ⟨h.os, h.tape, h.output, h.size, fun k hk => h.same k (by omega) (by omega)⟩
theorem But.run {r q : Nat} {w w' : World} (h : But r w w') {v : Int} (hq : RunAt w q v) (hn : q ≠ r) : RunAt w' q v := (h.same q (Array.getElem?_eq_some_iff.1 hq).1 hn).trans hq

theorem value_any (br : Nat) (v : Int) (w : World) (hr : RunAt w br v) : Calls Tryd.prog 22 #[.pointer (some ⟨br, 0, none⟩)] w fun e w' => e = .returned (.int .u64 v) ∧ w = w' := by
  have hc : w.cell? ⟨br, 0, none⟩ = some (.int .u64 v) := cell_of_row _ _ _ _ _ _ hr
  clear hr
  go_enter Tryd.func22, Tryd.ntmps22
  go_wp2
  go_ret
  exact ⟨rfl, rfl⟩

def BeginOut (v : Int) (w : World) (e : Ending) (w' : World) : Prop := ∃ b, e = .returned (.pointer (some ⟨b, 0, none⟩)) ∧ w.heap.size ≤ b ∧ RunAt w' b v ∧ Ext w w'
theorem begin_any (S : Nat → Prop) (w : World) (bt : Nat) (M : List (Key × Nd)) (N : Nat) (hT : TreeAt S w bt M N) (hTb : Tabs w) (hks : M.length * 168 ≤ 140737488355328) :
    Calls Tryd.prog 20 #[.pointer (some ⟨bt, 0, none⟩)] w (BeginOut (addN 0 (M.map (·.2))) w) := by
  have C1 := Lib.hid (dof_any S w bt M N hT hTb hks)
  clear hT hTb
  go_enter Tryd.func20, Tryd.ntmps20
  go_wp2_with fail
  refine C1.out.mono ?_
  rintro e W1 ⟨rfl, hE1⟩
  have hfin : BeginOut (addN 0 (M.map (·.2))) w (.returned (.pointer (some ⟨W1.heap.size, 0, none⟩))) (W1.alloc (.cells #[.int .u64 (addN 0 (M.map (·.2)))] 103)) := ⟨W1.heap.size, rfl, hE1.size, heap_alloc_new _ _, hE1.trans (Ext.alloc _ _)⟩
  have HFIN := Lib.hid hfin
  clear hfin hE1 C1
  go_wp2
  go_ret
  exact HFIN.out

def TurnOut (br : Nat) (v : Int) (w : World) (e : Ending) (w' : World) : Prop := e = .returned (.tuple #[]) ∧ RunAt w' br v ∧ But br w w'

theorem addN_take (s : Int) (l : List Nd) (k : Nat) (h : k < l.length) : addN s (l.take (k + 1)) = IntKind.u64.wrap (addN s (l.take k) + nodeN l[k]) := by
  rw [List.take_succ_eq_append_getElem h, addN_snoc]
theorem subN_take (s : Int) (l : List Nd) (k : Nat) (h : k < l.length) : subN s (l.take (k + 1)) = IntKind.u64.wrap (subN s (l.take k) - nodeN l[k]) := by
  rw [List.take_succ_eq_append_getElem h, subN_snoc]

theorem turn_any (br : Nat) (v : Int) (A B : List Nd) (aA aB : Option Addr) (cA cB B0 : Nat) (w : World) (hr : RunAt w br v) (hT : Tabs w) (hA : NdsAt B0 w aA A) (hB : NdsAt B0 w aB B) (hfA : ∀ n ∈ A, Fit n) (hfB : ∀ n ∈ B, Fit n) (h2 : 2 ≤ B0) (hB0 : B0 ≤ br) (hB1 : B0 ≤ w.heap.size)
    (hlA : A.length ≤ 9223372036854775807) (hlB : B.length ≤ 9223372036854775807) :
    Calls Tryd.prog 21 #[.pointer (some ⟨br, 0, none⟩), .slice aA A.length cA, .slice aB B.length cB] w (TurnOut br (addN (subN v A) B) w) := by
  have HA := Lib.hid hA
  have HB := Lib.hid hB
  have HFA := Lib.hid hfA
  have HFB := Lib.hid hfB
  have HT := Lib.hid hT
  clear hA hB hfA hfB hT
  go_enter Tryd.func21, Tryd.ntmps21
  go_wp2
  go_loopw [14] (fun i wr => ∃ k : Nat, k ≤ A.length ∧ i = .int .i64 k ∧ RunAt wr br (subN (v) (A.take k)) ∧ But br w wr) (fun i _ => A.length - (intOf i).toNat)
  case atStart => exact ⟨0, Nat.zero_le _, rfl, by simpa [subN] using hr, But.refl _ _⟩
  case round =>
    obtain ⟨k, hk, rfl, hR, hU⟩ := hrel
    by_cases hlt : k < A.length
    · have hLk : A[k]? = some A[k] := List.getElem?_eq_getElem hlt
      have hfk := HFA.out A[k] (List.getElem_mem hlt)
      have HS := Lib.hid (subN_take (v) A k hlt)
      obtain ⟨b, off, vv, rfl, hb, hv, hc⟩ := HA.out k A[k] hLk
      generalize A[k] = n at *
      obtain ⟨da, dc, aa, ac, rfl, hD, hAc⟩ := hv
      have hBl : Below B0 w wr := hU.below hB0 hB1
      have hcw : ∀ j u, (ndC n (.slice da n.data.length dc) (.slice aa n.acl.length ac))[j]? = some u → wr.cell? ((⟨b, off + k * 17, none⟩ : Addr).add j) = some u := fun j u hj => by
        rw [addr_add, hBl.cell (p := ⟨b, off + k * 17 + j, none⟩) hb]
        exact hc j u hj
      have hwz : B0 ≤ wr.heap.size := Nat.le_trans hB1 hU.size
      obtain ⟨W2, hW2⟩ : ∃ W2, W2 = wr.alloc (.cells (ndC n (.slice da n.data.length dc) (.slice aa n.acl.length ac)) 37) := ⟨_, rfl⟩
      have he2 : Ext wr W2 := by rw [hW2]; exact Ext.alloc _ _
      have hDW := ((hD.below hBl).mono hwz).ext he2
      have hAW := ((hAc.below hBl).mono hwz).ext he2
      have hTW : Tabs W2 := HT.out.below (hBl.trans (he2.mono hwz)) h2
      have hU2 : But br w W2 := hU.trans (But.of_ext he2)
      have hR2 : RunAt W2 br (subN (v) (A.take k)) := (he2.block br (Array.getElem?_eq_some_iff.1 hR).1).trans hR
      have hbl : W2.heap[wr.heap.size]? = some (.cells (ndC n (.slice da n.data.length dc) (.slice aa n.acl.length ac)) 37 (0, 0)) := by rw [hW2]; exact heap_alloc_new wr _
      generalize subN (v) (A.take k) = s at *
      have hs : W2.cell? ⟨br, 0, none⟩ = some (.int .u64 s) := cell_of_row _ _ _ _ _ _ hR2
      have HSET := Lib.hid ((setRow_alloc wr zeroNd (ndC n (.slice da n.data.length dc) (.slice aa n.acl.length ac)) 37).trans hW2.symm)
      have HNew := Lib.hid (heap_alloc_new wr (.cells zeroNd 37))
      have HC := Lib.hid hcw
      have HBL := Lib.hid hbl
      have HSs := Lib.hid hs
      have HDW := Lib.hid hDW
      have HAW := Lib.hid hAW
      have HTW := Lib.hid hTW
      have HU2 := Lib.hid hU2
      have HR2 := Lib.hid hR2
      unfold ndC at HSET HC
      unfold zeroNd at HSET HNew
      clear hcw hbl hs hDW hAW hTW hU2 hR2 hW2 he2 hR hU hBl hc hD hAc hLk
      go_wp2_with (first | (refine wpList_load_at rfl 37 (.tmp 16) rfl _ rfl _ _ HC.out Tryd.underlying37 rfl sizeNd ?_) | (refine wpList_store_row rfl 37 (.tmp 7) (.tmp 17) rfl wr.heap.size _ rfl rfl 37 _ HNew.out sizeNd rfl (cells_node n da aa _ _ dc ac) ?_; rw [HSET.out]))
      have hbl := HBL.out
      have hs := HSs.out
      have hDW := HDW.out
      have hAW := HAW.out
      have hTW := HTW.out
      refine wp_region_P (by kernel_rfl) (region_store_vals 44 [.pointer (some ⟨br, 0, none⟩), .pointer (some ⟨br, 0, none⟩), .pointer (some ⟨br, 0, none⟩), .int .u64 s, .agg (ndC n (.slice da n.data.length dc) (.slice aa n.acl.length ac)), .int .u64 (nodeN n), .int .u64 (IntKind.u64.wrap (s - nodeN n)), .pointer (some ⟨br, 0, none⟩), .pointer (some ⟨br, 0, none⟩)] 9 _ rfl rfl rfl rfl rfl (by decide) rfl ?duties ?last)
      case duties =>
            refine ⟨?_, ?_, ?_, ?_, ?_, ?_, ?_, ?_, ?_, trivial⟩
            · refine duty_free rfl fun a w' hE hF hA => ?_
              have x1 := hF.slot 0 _ (by decide) rfl
              exact wp_value (w' := w') (v := .pointer (some ⟨br, 0, none⟩)) (by simp only [execOp, x1]; simp [go_sem]) ⟨_, rfl, rfl, Ext.refl _⟩
            · refine duty_free rfl fun a w' hE hF hA => ?_
              have x1 := hA.val 0 18 rfl rfl ⟨⟨0, .data⟩, by simp, rfl, rfl⟩ rfl
              exact wp_value (w' := w') (v := .pointer (some ⟨br, 0, none⟩)) (by simp only [execOp, x1]; simp [go_sem]) ⟨_, rfl, rfl, Ext.refl _⟩
            · refine duty_free rfl fun a w' hE hF hA => ?_
              have x1 := hA.val 1 19 rfl rfl ⟨⟨1, .data⟩, by simp, rfl, rfl⟩ rfl
              exact wp_value (w' := w') (v := .pointer (some ⟨br, 0, none⟩)) (by simp only [execOp, x1]; simp [go_sem]) ⟨_, rfl, rfl, Ext.refl _⟩
            · refine duty_free rfl fun a w' hE hF hA => ?_
              have x1 := hA.val 2 20 rfl rfl ⟨⟨2, .data⟩, by simp, rfl, rfl⟩ rfl
              exact wp_value (ex_cell rfl _ _ x1 ((hE.cell (World.block_lt_of_cell? _ _ hs)).trans hs) rfl Tryd.underlying49) ⟨_, rfl, rfl, Ext.refl _⟩
            · refine duty_free rfl fun a w' hE hF hA => ?_
              have x1 := hF.slot 7 _ (by decide) rfl
              exact wp_value (ex_load_row rfl _ x1 37 _ (0, 0) _ ((hE.block _ (Array.getElem?_eq_some_iff.1 hbl).1).trans hbl) Tryd.underlying37 rfl sizeNd) ⟨_, rfl, rfl, Ext.refl _⟩
            · refine duty_free rfl fun a w' hE hF hA => ?_
              have x1 := hA.val 4 22 rfl rfl ⟨⟨4, .data⟩, by simp, rfl, rfl⟩ rfl
              refine wp_enter (ex_call rfl (enters_f Tryd.func52 (by kernel_rfl) rfl)) (by simp only [List.map_toArray, List.map_cons, List.map_nil, x1]; exact node_any n da aa dc ac w' hfk (hTW.below hE hTW.size) (hDW.ext hE) (hAW.ext hE)) ?_
              rintro e w4 ⟨rfl, hb⟩
              exact ⟨_, rfl, _, rfl, rfl, hb⟩
            · refine duty_free rfl fun a w' hE hF hA => ?_
              have x1 := hA.val 3 21 rfl rfl ⟨⟨3, .data⟩, by simp, rfl, rfl⟩ rfl
              have x2 := hA.val 5 23 rfl rfl ⟨⟨5, .data⟩, by simp, rfl, rfl⟩ rfl
              exact wp_value (w' := w') (v := .int .u64 (IntKind.u64.wrap (s - nodeN n))) (by simp only [execOp, x1, x2]; simp [go_sem]) ⟨_, rfl, rfl, Ext.refl _⟩
            · refine duty_free rfl fun a w' hE hF hA => ?_
              have x1 := hA.val 0 18 rfl rfl ⟨⟨0, .data⟩, by simp, rfl, rfl⟩ rfl
              exact wp_value (w' := w') (v := .pointer (some ⟨br, 0, none⟩)) (by simp only [execOp, x1]; simp [go_sem]) ⟨_, rfl, rfl, Ext.refl _⟩
            · refine duty_free rfl fun a w' hE hF hA => ?_
              have x1 := hA.val 7 25 rfl rfl ⟨⟨7, .data⟩, by simp, rfl, rfl⟩ rfl
              exact wp_value (w' := w') (v := .pointer (some ⟨br, 0, none⟩)) (by simp only [execOp, x1]; simp [go_sem]) ⟨_, rfl, rfl, Ext.refl _⟩
      case last =>
        intro W8 hE8
        have hR8 : RunAt W8 br s := (hE8.block br (Array.getElem?_eq_some_iff.1 HR2.out).1).trans HR2.out
        have hU8 := (HU2.out.trans (But.of_ext hE8)).trans (But.set br W8 #[.int .u64 (IntKind.u64.wrap (s - nodeN n))])
        have hR9 : RunAt (W8.setRow br #[.int .u64 (IntKind.u64.wrap (s - nodeN n))]) br (IntKind.u64.wrap (s - nodeN n)) := setRow_heap _ _ _ _ _ _ hR8
        have HR9 := Lib.hid hR9
        have HU8 := Lib.hid hU8
        have HR8 := Lib.hid hR8
        clear hbl hs hDW hAW hTW hR9 hU8 hR8 HBL HSs HDW HAW HTW HU2 HR2 HC HSET HNew
        simp only [filled, List.take_succ_cons, List.take_zero, List.zip_cons_cons, List.zip_nil_left, List.foldl_cons, List.foldl_nil, Act.put, List.setIfInBounds_toArray, List.set_cons_succ, List.set_cons_zero]
        refine wp_skipped (w' := W8.setRow br #[.int .u64 (IntKind.u64.wrap (s - nodeN n))]) (by refine run_store_one 49 (.tmp 26) (.tmp 24) ?_ br (.int .u64 (IntKind.u64.wrap (s - nodeN n))) ?_ ?_ ?_ 103 (.int .u64 s) HR8.out infoU64 <;> rfl) ?_
        simp only [Exit.inBlock, Exit.then, Act.put]
        rename_i hK
        refine hK _ _ ?_
        go_wp2
        go_roundw
        case rel => exact ⟨k + 1, by omega, by go_num, by rw [HS.out]; exact HR9.out, HU8.out⟩
        case measure => simp [intOf]; omega
    · obtain rfl : k = A.length := by omega
      rw [List.take_length] at hR
      go_wp2
      go_loopw [30] (fun i wr => ∃ k : Nat, k ≤ B.length ∧ i = .int .i64 k ∧ RunAt wr br (addN (subN v A) (B.take k)) ∧ But br w wr) (fun i _ => B.length - (intOf i).toNat)
      case atStart => exact ⟨0, Nat.zero_le _, rfl, by simpa [addN] using hR, hU⟩
      case round =>
        obtain ⟨k, hk, rfl, hR, hU⟩ := hrel
        by_cases hlt : k < B.length
        · have hLk : B[k]? = some B[k] := List.getElem?_eq_getElem hlt
          have hfk := HFB.out B[k] (List.getElem_mem hlt)
          have HS := Lib.hid (addN_take (subN v A) B k hlt)
          obtain ⟨b, off, vv, rfl, hb, hv, hc⟩ := HB.out k B[k] hLk
          generalize B[k] = n at *
          obtain ⟨da, dc, aa, ac, rfl, hD, hAc⟩ := hv
          have hBl : Below B0 w wr := hU.below hB0 hB1
          have hcw : ∀ j u, (ndC n (.slice da n.data.length dc) (.slice aa n.acl.length ac))[j]? = some u → wr.cell? ((⟨b, off + k * 17, none⟩ : Addr).add j) = some u := fun j u hj => by
            rw [addr_add, hBl.cell (p := ⟨b, off + k * 17 + j, none⟩) hb]
            exact hc j u hj
          have hwz : B0 ≤ wr.heap.size := Nat.le_trans hB1 hU.size
          obtain ⟨W2, hW2⟩ : ∃ W2, W2 = wr.alloc (.cells (ndC n (.slice da n.data.length dc) (.slice aa n.acl.length ac)) 37) := ⟨_, rfl⟩
          have he2 : Ext wr W2 := by rw [hW2]; exact Ext.alloc _ _
          have hDW := ((hD.below hBl).mono hwz).ext he2
          have hAW := ((hAc.below hBl).mono hwz).ext he2
          have hTW : Tabs W2 := HT.out.below (hBl.trans (he2.mono hwz)) h2
          have hU2 : But br w W2 := hU.trans (But.of_ext he2)
          have hR2 : RunAt W2 br (addN (subN v A) (B.take k)) := (he2.block br (Array.getElem?_eq_some_iff.1 hR).1).trans hR
          have hbl : W2.heap[wr.heap.size]? = some (.cells (ndC n (.slice da n.data.length dc) (.slice aa n.acl.length ac)) 37 (0, 0)) := by rw [hW2]; exact heap_alloc_new wr _
          generalize addN (subN v A) (B.take k) = s at *
          have hs : W2.cell? ⟨br, 0, none⟩ = some (.int .u64 s) := cell_of_row _ _ _ _ _ _ hR2
          have HSET := Lib.hid ((setRow_alloc wr zeroNd (ndC n (.slice da n.data.length dc) (.slice aa n.acl.length ac)) 37).trans hW2.symm)
          have HNew := Lib.hid (heap_alloc_new wr (.cells zeroNd 37))
          have HC := Lib.hid hcw
          have HBL := Lib.hid hbl
          have HSs := Lib.hid hs
          have HDW := Lib.hid hDW
          have HAW := Lib.hid hAW
          have HTW := Lib.hid hTW
          have HU2 := Lib.hid hU2
          have HR2 := Lib.hid hR2
          unfold ndC at HSET HC
          unfold zeroNd at HSET HNew
          clear hcw hbl hs hDW hAW hTW hU2 hR2 hW2 he2 hR hU hBl hc hD hAc hLk
          go_wp2_with (first | (refine wpList_load_at rfl 37 (.tmp 32) rfl _ rfl _ _ HC.out Tryd.underlying37 rfl sizeNd ?_) | (refine wpList_store_row rfl 37 (.tmp 9) (.tmp 33) rfl wr.heap.size _ rfl rfl 37 _ HNew.out sizeNd rfl (cells_node n da aa _ _ dc ac) ?_; rw [HSET.out]))
          have hbl := HBL.out
          have hs := HSs.out
          have hDW := HDW.out
          have hAW := HAW.out
          have hTW := HTW.out
          refine wp_region_P (by kernel_rfl) (region_store_vals 44 [.pointer (some ⟨br, 0, none⟩), .pointer (some ⟨br, 0, none⟩), .pointer (some ⟨br, 0, none⟩), .int .u64 s, .agg (ndC n (.slice da n.data.length dc) (.slice aa n.acl.length ac)), .int .u64 (nodeN n), .int .u64 (IntKind.u64.wrap (s + nodeN n)), .pointer (some ⟨br, 0, none⟩), .pointer (some ⟨br, 0, none⟩)] 9 _ rfl rfl rfl rfl rfl (by decide) rfl ?duties ?last)
          case duties =>
                refine ⟨?_, ?_, ?_, ?_, ?_, ?_, ?_, ?_, ?_, trivial⟩
                · refine duty_free rfl fun a w' hE hF hA => ?_
                  have x1 := hF.slot 0 _ (by decide) rfl
                  exact wp_value (w' := w') (v := .pointer (some ⟨br, 0, none⟩)) (by simp only [execOp, x1]; simp [go_sem]) ⟨_, rfl, rfl, Ext.refl _⟩
                · refine duty_free rfl fun a w' hE hF hA => ?_
                  have x1 := hA.val 0 34 rfl rfl ⟨⟨0, .data⟩, by simp, rfl, rfl⟩ rfl
                  exact wp_value (w' := w') (v := .pointer (some ⟨br, 0, none⟩)) (by simp only [execOp, x1]; simp [go_sem]) ⟨_, rfl, rfl, Ext.refl _⟩
                · refine duty_free rfl fun a w' hE hF hA => ?_
                  have x1 := hA.val 1 35 rfl rfl ⟨⟨1, .data⟩, by simp, rfl, rfl⟩ rfl
                  exact wp_value (w' := w') (v := .pointer (some ⟨br, 0, none⟩)) (by simp only [execOp, x1]; simp [go_sem]) ⟨_, rfl, rfl, Ext.refl _⟩
                · refine duty_free rfl fun a w' hE hF hA => ?_
                  have x1 := hA.val 2 36 rfl rfl ⟨⟨2, .data⟩, by simp, rfl, rfl⟩ rfl
                  exact wp_value (ex_cell rfl _ _ x1 ((hE.cell (World.block_lt_of_cell? _ _ hs)).trans hs) rfl Tryd.underlying49) ⟨_, rfl, rfl, Ext.refl _⟩
                · refine duty_free rfl fun a w' hE hF hA => ?_
                  have x1 := hF.slot 9 _ (by decide) rfl
                  exact wp_value (ex_load_row rfl _ x1 37 _ (0, 0) _ ((hE.block _ (Array.getElem?_eq_some_iff.1 hbl).1).trans hbl) Tryd.underlying37 rfl sizeNd) ⟨_, rfl, rfl, Ext.refl _⟩
                · refine duty_free rfl fun a w' hE hF hA => ?_
                  have x1 := hA.val 4 38 rfl rfl ⟨⟨4, .data⟩, by simp, rfl, rfl⟩ rfl
                  refine wp_enter (ex_call rfl (enters_f Tryd.func52 (by kernel_rfl) rfl)) (by simp only [List.map_toArray, List.map_cons, List.map_nil, x1]; exact node_any n da aa dc ac w' hfk (hTW.below hE hTW.size) (hDW.ext hE) (hAW.ext hE)) ?_
                  rintro e w4 ⟨rfl, hb⟩
                  exact ⟨_, rfl, _, rfl, rfl, hb⟩
                · refine duty_free rfl fun a w' hE hF hA => ?_
                  have x1 := hA.val 3 37 rfl rfl ⟨⟨3, .data⟩, by simp, rfl, rfl⟩ rfl
                  have x2 := hA.val 5 39 rfl rfl ⟨⟨5, .data⟩, by simp, rfl, rfl⟩ rfl
                  exact wp_value (w' := w') (v := .int .u64 (IntKind.u64.wrap (s + nodeN n))) (by simp only [execOp, x1, x2]; simp [go_sem]) ⟨_, rfl, rfl, Ext.refl _⟩
                · refine duty_free rfl fun a w' hE hF hA => ?_
                  have x1 := hA.val 0 34 rfl rfl ⟨⟨0, .data⟩, by simp, rfl, rfl⟩ rfl
                  exact wp_value (w' := w') (v := .pointer (some ⟨br, 0, none⟩)) (by simp only [execOp, x1]; simp [go_sem]) ⟨_, rfl, rfl, Ext.refl _⟩
                · refine duty_free rfl fun a w' hE hF hA => ?_
                  have x1 := hA.val 7 41 rfl rfl ⟨⟨7, .data⟩, by simp, rfl, rfl⟩ rfl
                  exact wp_value (w' := w') (v := .pointer (some ⟨br, 0, none⟩)) (by simp only [execOp, x1]; simp [go_sem]) ⟨_, rfl, rfl, Ext.refl _⟩
          case last =>
            intro W8 hE8
            have hR8 : RunAt W8 br s := (hE8.block br (Array.getElem?_eq_some_iff.1 HR2.out).1).trans HR2.out
            have hU8 := (HU2.out.trans (But.of_ext hE8)).trans (But.set br W8 #[.int .u64 (IntKind.u64.wrap (s + nodeN n))])
            have hR9 : RunAt (W8.setRow br #[.int .u64 (IntKind.u64.wrap (s + nodeN n))]) br (IntKind.u64.wrap (s + nodeN n)) := setRow_heap _ _ _ _ _ _ hR8
            have HR9 := Lib.hid hR9
            have HU8 := Lib.hid hU8
            have HR8 := Lib.hid hR8
            clear hbl hs hDW hAW hTW hR9 hU8 hR8 HBL HSs HDW HAW HTW HU2 HR2 HC HSET HNew
            simp only [filled, List.take_succ_cons, List.take_zero, List.zip_cons_cons, List.zip_nil_left, List.foldl_cons, List.foldl_nil, Act.put, List.setIfInBounds_toArray, List.set_cons_succ, List.set_cons_zero]
            refine wp_skipped (w' := W8.setRow br #[.int .u64 (IntKind.u64.wrap (s + nodeN n))]) (by refine run_store_one 49 (.tmp 42) (.tmp 40) ?_ br (.int .u64 (IntKind.u64.wrap (s + nodeN n))) ?_ ?_ ?_ 103 (.int .u64 s) HR8.out infoU64 <;> rfl) ?_
            simp only [Exit.inBlock, Exit.then, Act.put]
            rename_i hK
            refine hK _ _ ?_
            go_wp2
            go_roundw
            case rel => exact ⟨k + 1, by omega, by go_num, by rw [HS.out]; exact HR9.out, HU8.out⟩
            case measure => simp [intOf]; omega
        · obtain rfl : k = B.length := by omega
          rw [List.take_length] at hR
          have hfin : TurnOut br (addN (subN v A) B) w (.returned (.tuple #[])) wr := ⟨rfl, hR, hU⟩
          have HFIN := Lib.hid hfin
          clear hfin hR hU
          go_wp2
          exact ⟨rfl, _, results_none rfl _ _ _, HFIN.out⟩


end Go.Proofs.YtfgjbcejpjcpeaaDoor
namespace Go.Proofs.YtfgjbcejpjcpeaaDoor
open Go.RowKit
set_option maxHeartbeats 4000000
set_option maxRecDepth 100000

/-- The cells of a book of every second number, two at the most. -/
def bkC (l : Int) (v : Value) : Array Value := #[.int .i64 2, .int .i64 2, .int .i64 l, v, .int .i64 0]

def FirstOut (w : World) (bb : Nat) (e : Ending) (w' : World) : Prop :=
  e = .returned (.bool true) ∧ (∃ v, w'.heap[bb]? = some (.cells (bkC 2 v) 107 (0, 0)) ∧ ∃ a c, v = .slice a 1 c) ∧ But bb w w'

/-- What the appending of an entry to a nil ring leaves, operation by operation. -/
def PhiF (bb : Nat) (i : Nat) (v : Value) (w : World) : Prop :=
  match i with
  | 0 | 1 | 2 | 8 => v = .pointer (some ⟨bb, 0, none⟩)
  | 3 | 9 => v = .pointer (some ⟨bb, 3, none⟩)
  | 4 => v = .slice none 0 0
  | 5 => v = .agg #[.int .i64 2, .int .u64 6]
  | 6 => ∃ g, v = .slice (some ⟨g, 0, none⟩) 1 1 ∧ w.heap[g]? = some (.cells #[.int .i64 2, .int .u64 6] 109 (0, 0))
  | 7 => ∃ a c, v = .slice a 1 c
  | _ => False
theorem PhiF.stab (bb : Nat) : ∀ i v w w', PhiF bb i v w → Ext w w' → PhiF bb i v w' := by
  intro i v w w' h hE
  unfold PhiF at *
  split <;> rename_i hi <;> simp only [] at h ⊢ <;> try exact h
  obtain ⟨g, rfl, hg⟩ := h
  exact ⟨g, rfl, (hE.block g (Array.getElem?_eq_some_iff.1 hg).1).trans hg⟩

theorem notefirst_any (w : World) (bb : Nat) (hb : w.heap[bb]? = some (.cells (bkC 0 (.slice none 0 0)) 107 (0, 0))) :
    Calls Tryd.prog 25 #[.pointer (some ⟨bb, 0, none⟩), .int .i64 2, .int .u64 6] w (FirstOut w bb) := by
  have hx : Box w bb (bkC 0 (.slice none 0 0)) := fun j => cell_of_row _ _ _ _ _ _ hb
  obtain ⟨W1, hW1⟩ : ∃ W1, W1 = w.setRow bb (bkC 2 (.slice none 0 0)) := ⟨_, rfl⟩
  have hb1 : W1.heap[bb]? = some (.cells (bkC 2 (.slice none 0 0)) 107 (0, 0)) := by rw [hW1]; exact setRow_heap _ _ _ _ _ _ hb
  have hx1 : Box W1 bb (bkC 2 (.slice none 0 0)) := fun j => cell_of_row _ _ _ _ _ _ hb1
  have hC1 : But bb w W1 := by rw [hW1]; exact But.set _ _ _
  have hbl : bb < W1.heap.size := (Array.getElem?_eq_some_iff.1 hb1).1
  obtain ⟨W2, hW2⟩ : ∃ W2, W2 = W1.alloc (.cells #[.int .i64 2, .int .u64 6] 109) := ⟨_, rfl⟩
  have hE2 : Ext W1 W2 := by rw [hW2]; exact Ext.alloc _ _
  have HSET := Lib.hid ((setRow_alloc W1 #[.int .i64 0, .int .u64 0] #[.int .i64 2, .int .u64 6] 109).trans hW2.symm)
  have HNew := Lib.hid (heap_alloc_new W1 (.cells #[.int .i64 0, .int .u64 0] 109))
  have ce : W2.heap[W1.heap.size]? = some (.cells #[.int .i64 2, .int .u64 6] 109 (0, 0)) := by rw [hW2]; exact heap_alloc_new _ _
  have hb2 := (hE2.block bb hbl).trans hb1
  have HB2 := Lib.hid hb2
  have HCE := Lib.hid ce
  have HC2 := Lib.hid (hC1.trans (But.of_ext hE2))
  have HC1' := Lib.hid (show W2.cell? ⟨bb, 1, none⟩ = some (.int .i64 2) from cell_of_row _ _ 1 _ _ _ hb2)
  have HC3' := Lib.hid (show W2.cell? ⟨bb, 3, none⟩ = some (.slice none 0 0) from cell_of_row _ _ 3 _ _ _ hb2)
  have hbl2 : bb ≠ W1.heap.size := by omega
  have HBLK := Lib.hid hb
  have HW1 := Lib.hid hW1
  have hdm : ((bits .and .i64 2 4294967295).tmod 2 != 0) = false := by decide +kernel
  unfold Box bkC at hx hx1
  unfold bkC at HBLK HW1
  clear hW1 hb1 hC1 hW2 hE2 ce hb2 hb
  go_enter Tryd.func25, Tryd.ntmps25
  go_wp2_with (first | (refine wpList_store_in rfl 2 (.tmp 25) (.tmp 23) rfl bb 2 (.int .i64 2) rfl rfl (by simp [Value.cells, Value.oneCell']) 107 _ HBLK.out (by simp [Value.cells]) infoI64 #[.int .i64 2, .int .i64 2, .int .i64 2, .slice none 0 0, .int .i64 0] (by simp [Value.cells]) ?_; rw [← HW1.out]) | (refine wpList_store_row rfl 109 (.tmp 7) (.tmp 36) rfl W1.heap.size _ rfl rfl 109 _ HNew.out sizeEnt rfl (by simp [Value.oneCell']) ?_; rw [HSET.out]))
  have c1 := HC1'.out
  have c3 := HC3'.out
  refine wp_region_P (by kernel_rfl) (region_vals 80 [.pointer (some ⟨bb, 0, none⟩), .pointer (some ⟨bb, 0, none⟩), .pointer (some ⟨bb, 3, none⟩), .slice none 0 0, .int .i64 0, .pointer (some ⟨bb, 0, none⟩), .pointer (some ⟨bb, 0, none⟩), .pointer (some ⟨bb, 1, none⟩), .int .i64 2, .bool true] rfl (by decide) rfl ?duties ?rest)
  case duties =>
    refine ⟨?_, ?_, ?_, ?_, ?_, ?_, ?_, ?_, ?_, ?_, trivial⟩
    · refine duty_free rfl fun a w' hE hF hA => ?_
      have x1 := hF.slot 0 _ (by decide) rfl
      exact wp_value (w' := w') (v := .pointer (some ⟨bb, 0, none⟩)) (by simp only [execOp, x1]; simp [go_sem]) ⟨_, rfl, rfl, Ext.refl _⟩
    · refine duty_free rfl fun a w' hE hF hA => ?_
      have x1 := hA.val 0 37 rfl rfl ⟨⟨0, .data⟩, by simp, rfl, rfl⟩ rfl
      exact wp_value (w' := w') (v := .pointer (some ⟨bb, 0, none⟩)) (by simp only [execOp, x1]; simp [go_sem]) ⟨_, rfl, rfl, Ext.refl _⟩
    · refine duty_free rfl fun a w' hE hF hA => ?_
      have x1 := hA.val 1 38 rfl rfl ⟨⟨1, .data⟩, by simp, rfl, rfl⟩ rfl
      exact wp_value (w' := w') (v := .pointer (some ⟨bb, 3, none⟩)) (by simp only [execOp, x1]; simp [go_sem]) ⟨_, rfl, rfl, Ext.refl _⟩
    · refine duty_free rfl fun a w' hE hF hA => ?_
      have x1 := hA.val 2 39 rfl rfl ⟨⟨2, .data⟩, by simp, rfl, rfl⟩ rfl
      exact wp_value (ex_cell rfl _ _ x1 ((hE.cell (World.block_lt_of_cell? _ _ c3)).trans c3) rfl Tryd.underlying105) ⟨_, rfl, rfl, Ext.refl _⟩
    · refine duty_free rfl fun a w' hE hF hA => ?_
      have x1 := hA.val 3 40 rfl rfl ⟨⟨3, .data⟩, by simp, rfl, rfl⟩ rfl
      exact wp_value (w' := w') (v := .int .i64 0) (by simp only [execOp, resolve, List.map_toArray, List.map_cons, List.map_nil, x1]; simp [go_sem, invoke, builtin, Builtin.len_]) ⟨_, rfl, rfl, Ext.refl _⟩
    · refine duty_free rfl fun a w' hE hF hA => ?_
      have x1 := hF.slot 0 _ (by decide) rfl
      exact wp_value (w' := w') (v := .pointer (some ⟨bb, 0, none⟩)) (by simp only [execOp, x1]; simp [go_sem]) ⟨_, rfl, rfl, Ext.refl _⟩
    · refine duty_free rfl fun a w' hE hF hA => ?_
      have x1 := hA.val 5 42 rfl rfl ⟨⟨5, .data⟩, by simp, rfl, rfl⟩ rfl
      exact wp_value (w' := w') (v := .pointer (some ⟨bb, 0, none⟩)) (by simp only [execOp, x1]; simp [go_sem]) ⟨_, rfl, rfl, Ext.refl _⟩
    · refine duty_free rfl fun a w' hE hF hA => ?_
      have x1 := hA.val 6 43 rfl rfl ⟨⟨6, .data⟩, by simp, rfl, rfl⟩ rfl
      exact wp_value (w' := w') (v := .pointer (some ⟨bb, 1, none⟩)) (by simp only [execOp, x1]; simp [go_sem]) ⟨_, rfl, rfl, Ext.refl _⟩
    · refine duty_free rfl fun a w' hE hF hA => ?_
      have x1 := hA.val 7 44 rfl rfl ⟨⟨7, .data⟩, by simp, rfl, rfl⟩ rfl
      exact wp_value (ex_cell rfl _ _ x1 ((hE.cell (World.block_lt_of_cell? _ _ c1)).trans c1) rfl Tryd.underlying3) ⟨_, rfl, rfl, Ext.refl _⟩
    · refine duty_free rfl fun a w' hE hF hA => ?_
      have x1 := hA.val 4 41 rfl rfl ⟨⟨4, .data⟩, by simp, rfl, rfl⟩ rfl
      have x2 := hA.val 8 45 rfl rfl ⟨⟨8, .data⟩, by simp, rfl, rfl⟩ rfl
      exact wp_value (w' := w') (v := .bool true) (by simp only [execOp, x1, x2]; simp [go_sem]) ⟨_, rfl, rfl, Ext.refl _⟩
  case rest =>
    intro W3 hE3
    clear c1 c3
    simp only [filled, List.zip_cons_cons, List.zip_nil_left, List.foldl_cons, List.foldl_nil, Act.put, List.setIfInBounds_toArray, List.set_cons_succ, List.set_cons_zero, Exit.then]
    rename_i hK
    refine hK _ _ ?_
    go_wp2
    have hb3 := (hE3.block bb (Array.getElem?_eq_some_iff.1 HB2.out).1).trans HB2.out
    have ce3 := (hE3.block _ (Array.getElem?_eq_some_iff.1 HCE.out).1).trans HCE.out
    have c3 : W3.cell? ⟨bb, 3, none⟩ = some (.slice none 0 0) := cell_of_row _ _ 3 _ _ _ hb3
    obtain ⟨i0, hi, hz0, hz1', hz2⟩ := info_parts infoEnt
    refine wp_region_last_e 80 (by kernel_rfl) (PhiF bb) (PhiF.stab bb) (by decide) rfl 10 _ rfl rfl rfl rfl ?duties2 ?last
    case duties2 =>
      refine ⟨?_, ?_, ?_, ?_, ?_, ?_, ?_, ?_, ?_, ?_, trivial⟩
      · exact duty_free rfl fun a w' hE hF hA => wp_value (w' := w') (ex_move rfl) ⟨_, rfl, hF.slot 0 _ (by decide) rfl, Ext.refl _⟩
      · exact duty_free rfl fun a w' hE hF hA => wp_value (w' := w') (ex_move rfl) ⟨_, rfl, hF.slot 0 _ (by decide) rfl, Ext.refl _⟩
      · refine duty_free rfl fun a w' hE hF hA => ?_
        have x1 : a.eval (.tmp 48) = _ := hA.slot 1 48 rfl rfl ⟨⟨1, .data⟩, by simp, rfl, rfl⟩
        exact wp_value (ex_nilCheck rfl _ x1) ⟨_, rfl, rfl, Ext.refl _⟩
      · refine duty_free rfl fun a w' hE hF hA => ?_
        have x1 : a.eval (.tmp 49) = _ := hA.slot 2 49 rfl rfl ⟨⟨2, .data⟩, by simp, rfl, rfl⟩
        exact wp_value (v := .pointer (some ⟨bb, 3, none⟩)) (w' := w') (by simp only [execOp, x1]; simp [go_sem]) ⟨_, rfl, rfl, Ext.refl _⟩
      · refine duty_free rfl fun a w' hE hF hA => ?_
        have x1 : a.eval (.tmp 50) = _ := hA.slot 3 50 rfl rfl ⟨⟨3, .data⟩, by simp, rfl, rfl⟩
        exact wp_value (ex_cell rfl _ _ x1 ((hE.cell (World.block_lt_of_cell? _ _ c3)).trans c3) rfl Tryd.underlying105) ⟨_, rfl, rfl, Ext.refl _⟩
      · refine duty_free rfl fun a w' hE hF hA => ?_
        have x1 := hF.slot 7 _ (by decide) rfl
        exact wp_value (ex_load_row rfl _ x1 109 _ (0, 0) _ ((hE.block _ (Array.getElem?_eq_some_iff.1 ce3).1).trans ce3) Tryd.underlying109 rfl sizeEnt) ⟨_, rfl, rfl, Ext.refl _⟩
      · refine duty_free rfl fun a w' hE hF hA => ?_
        have x1 : a.eval (.tmp 52) = _ := hA.slot 5 52 rfl rfl ⟨⟨5, .data⟩, by simp, rfl, rfl⟩
        refine wp_buildSlice 105 109 1 _ rfl #[.int .i64 2, .int .u64 6] i0 (.agg #[.int .i64 0, .int .u64 0]) Tryd.underlying105 hi hz0 (by rw [hz1']; decide) (by rw [hz1']; decide) (by simp only [List.map_toArray, List.map_cons, List.map_nil, x1, hz1']; kernel_rfl) ⟨_, rfl, ⟨w'.heap.size, rfl, heap_alloc_new _ _⟩, Ext.alloc _ _⟩
      · refine duty_free rfl fun a w' hE hF hA => ?_
        have x1 : a.eval (.tmp 51) = _ := hA.slot 4 51 rfl rfl ⟨⟨4, .data⟩, by simp, rfl, rfl⟩
        obtain ⟨g, x2, hg⟩ : ∃ g, a.eval (.tmp 53) = .slice (some ⟨g, 0, none⟩) 1 1 ∧ w'.heap[g]? = some (.cells #[.int .i64 2, .int .u64 6] 109 (0, 0)) := hA.slot 6 53 rfl rfl ⟨⟨6, .data⟩, by simp, rfl, rfl⟩
        have hcs : Cells w'.heap.size w' (some ⟨g, 0, none⟩) [.int .i64 2, .int .u64 6] := fun j u hj => ⟨g, 0, rfl, (Array.getElem?_eq_some_iff.1 hg).1, by rw [Nat.zero_add, cell_of_row _ _ _ _ _ _ hg]; simpa using hj⟩
        have hsrc : Src Tryd.prog 2 105 (.slice (some ⟨g, 0, none⟩) 1 1) 1 [.int .i64 2, .int .u64 6] w' := hcs.src Tryd.underlying105 1 1 rfl (by simp [Value.oneCell'])
        obtain ⟨v', w2, hr, hown, hgr, _, _⟩ := run_append_own_src (P := Tryd.prog) w' w'.heap.size 105 105 105 109 i0 (.agg #[.int .i64 0, .int .u64 0]) 2 16 Tryd.underlying105 hi hz0 hz1' hz2 rfl (by decide) (.slice none 0 0) 0 [] (World.ownsRow_nil _ _ _ _) _ 1 _ hsrc (by unfold maxLen; omega) (by omega) (Nat.le_refl _)
        obtain ⟨a', c', rfl, _⟩ := ownsRow_from hown
        exact wp_value (ex_append rfl (by rw [x1, x2]; exact hr)) ⟨_, rfl, ⟨a', c', rfl⟩, ⟨hgr.os, hgr.tape, hgr.output, hgr.size, fun k hk => hgr.block k hk (by simp [Value.ownBlock])⟩⟩
      · refine duty_free rfl fun a w' hE hF hA => ?_
        have x1 : a.eval (.tmp 47) = _ := hA.slot 0 47 rfl rfl ⟨⟨0, .data⟩, by simp, rfl, rfl⟩
        exact wp_value (ex_nilCheck rfl _ x1) ⟨_, rfl, rfl, Ext.refl _⟩
      · refine duty_free rfl fun a w' hE hF hA => ?_
        have x1 : a.eval (.tmp 55) = _ := hA.slot 8 55 rfl rfl ⟨⟨8, .data⟩, by simp, rfl, rfl⟩
        exact wp_value (v := .pointer (some ⟨bb, 3, none⟩)) (w' := w') (by simp only [execOp, x1]; simp [go_sem]) ⟨_, rfl, rfl, Ext.refl _⟩
    case last =>
      intro us W4 hE4 hl hP
      have hl' : us.length = 10 := by simpa using hl
      clear hl
      obtain ⟨u0, u1, u2, u3, u4, u5, u6, u7, u8, u9, rfl⟩ := us10 us hl'
      have h7 : ∃ a c, u7 = .slice a 1 c := hP 7 u7 rfl
      have h7a := h7.choose_spec
      generalize h7.choose = a' at h7a
      have h7b := h7a.choose_spec
      generalize h7a.choose = c' at h7b
      have h9 : u9 = .pointer (some ⟨bb, 3, none⟩) := hP 9 u9 rfl
      subst h7b h9
      clear h7 h7a
      have hb4 := (hE4.block bb (Array.getElem?_eq_some_iff.1 hb3).1).trans hb3
      have hfin : FirstOut w bb (.returned (.bool true)) (W4.setRow bb #[.int .i64 2, .int .i64 2, .int .i64 2, .slice a' 1 c', .int .i64 0]) :=
        ⟨rfl, ⟨_, setRow_heap _ _ _ _ _ _ hb4, a', c', rfl⟩, ((HC2.out.trans (But.of_ext hE3)).trans (But.of_ext hE4)).trans (But.set _ _ _)⟩
      have HFIN := Lib.hid hfin
      have HB4 := Lib.hid hb4
      unfold bkC at HB4
      clear hfin hb4 hb3 ce3 c3 hP hl'
      simp only [filled, List.take_succ_cons, List.take_zero, List.zip_cons_cons, List.zip_nil_left, List.foldl_cons, List.foldl_nil, Act.put, List.setIfInBounds_toArray, List.set_cons_succ, List.set_cons_zero]
      refine wp_store_in 105 (.tmp 56) (.tmp 54) bb 3 (.slice a' 1 c') 107 _ #[.int .i64 2, .int .i64 2, .int .i64 2, .slice a' 1 c', .int .i64 0] HB4.out (by simp [Value.cells]) infoEnts (by simp [Value.cells]) (by simp [Value.cells, Value.oneCell']) ?_ rfl rfl rfl
      simp only [Exit.inBlock, Exit.then, Act.put]
      rename_i hK2
      refine hK2 _ _ ?_
      go_wp2
      go_ret
      exact HFIN.out
end Go.Proofs.YtfgjbcejpjcpeaaDoor
namespace Go.Proofs.YtfgjbcejpjcpeaaDoor
open Go.RowKit
set_option maxHeartbeats 4000000
set_option maxRecDepth 100000

theorem blen_row (w : World) (bb : Nat) (a : Option Addr) (n c : Nat) (h3 : w.cell? ⟨bb, 3, none⟩ = some (.slice a n c)) : Calls Tryd.prog 31 #[.pointer (some ⟨bb, 0, none⟩)] w fun e w' => e = .returned (.int .i64 n) ∧ w = w' := by
  go_enter Tryd.func31, Tryd.ntmps31
  go_wp2
  go_ret
  exact ⟨rfl, rfl⟩

theorem root_number : addN 0 [rootN] ≠ 0 := by decide +kernel

theorem alive9_any (w : World) (hT : Tabs w) : Calls Tryd.prog 18 #[] w fun e w' => e = .returned (.bool true) ∧ Ext w w' := by
  have hsz := hT.size
  have C1 := newbook_any 2 2 w
  unfold NewBookOut at C1
  simp only [show ((1 : Int) ≤ 2 ∧ (1 : Int) ≤ 2) from by decide, if_true, and_self] at C1
  have C1 := Lib.hid C1
  have HT := Lib.hid hT
  clear hT
  go_enter Tryd.func18, Tryd.ntmps18
  go_wp2_with fail
  refine C1.out.mono ?_
  rintro e W1 ⟨bb, rfl, hbb, hB, hE1⟩
  have hbl := hB.bound _ hB.mine
  have C2 : Calls Tryd.prog 50 #[.slice none 0 0] W1 fun e w' => e = .returned (.int .u64 14695981039346656037) ∧ W1 = w' := sum_any none 0 [] W1 (Cells.nil _ _ _) (by simp)
  have C2 := Lib.hid C2
  have C3 := Lib.hid (notefirst_any W1 bb hB.blk)
  have HE1 := Lib.hid hE1
  have hz1 := hE1.size
  clear hB hE1 C1
  go_wp2_with fail
  refine C2.out.mono ?_
  rintro e W2 ⟨rfl, rfl⟩
  clear C2
  go_wp2_with fail
  refine C3.out.mono ?_
  rintro e W2 ⟨rfl, ⟨v, hrow, a, c, rfl⟩, hBut⟩
  have hB2 : Ext w W2 := HE1.out.trans' (hBut.below hbb (by omega))
  have C4 := Lib.hid (blen_row W2 bb a 1 c (cell_of_row _ _ 3 _ _ _ hrow))
  have C5 := Lib.hid (new_any W2)
  have HB2 := Lib.hid hB2
  clear C3 hrow hBut hB2
  go_wp2_with fail
  refine C4.out.mono ?_
  rintro e W3 ⟨rfl, rfl⟩
  clear C4
  go_wp2_with fail
  refine C5.out.mono ?_
  rintro e W3 ⟨bt, rfl, hTr, hE3⟩
  have hE3 : Ext W2 W3 := hE3
  have hB3 := HB2.out.trans hE3
  have C6 := dof_any _ W3 bt _ _ hTr (HT.out.below hB3 hsz) (by simp)
  simp only [List.map_cons, List.map_nil] at C6
  have C6 := Lib.hid C6
  have HB3 := Lib.hid hB3
  have hne : (addN 0 [rootN] != 0) = true := by simpa using root_number
  have hne2 : decide (addN 0 [rootN] = 0) = false := by simpa using root_number
  clear hTr hE3 hB3 C5
  go_wp2_with fail
  refine C6.out.mono ?_
  rintro e W4 ⟨rfl, hE4⟩
  have HFIN := Lib.hid (HB3.out.trans hE4)
  clear hE4 C6
  go_wp2
  go_ret
  exact ⟨rfl, HFIN.out⟩
end Go.Proofs.YtfgjbcejpjcpeaaDoor
namespace Go.Proofs.YtfgjbcejpjcpeaaDoor
open Go.RowKit
set_option maxHeartbeats 4000000
set_option maxRecDepth 100000

def sumI : List Nd → Int
  | [] => 0
  | n :: l => nodeN n + sumI l
theorem u64_wrap (n : Int) : IntKind.u64.wrap n = n % 18446744073709551616 := IntKind.wrap_u64 n
theorem addN_mod : ∀ (l : List Nd) (s : Int), 0 ≤ s → s < 18446744073709551616 → addN s l = (s + sumI l) % 18446744073709551616
  | [], s, h0, h1 => by show s = _; unfold sumI; omega
  | n :: l, s, h0, h1 => by
    have := addN_mod l (IntKind.u64.wrap (s + nodeN n)) (by rw [u64_wrap]; omega) (by rw [u64_wrap]; omega)
    rw [u64_wrap] at this
    show addN (IntKind.u64.wrap (s + nodeN n)) l = (s + (nodeN n + sumI l)) % 18446744073709551616
    rw [u64_wrap, this]
    omega
theorem subN_mod : ∀ (l : List Nd) (s : Int), 0 ≤ s → s < 18446744073709551616 → subN s l = (s - sumI l) % 18446744073709551616
  | [], s, h0, h1 => by show s = _; unfold sumI; omega
  | n :: l, s, h0, h1 => by
    have := subN_mod l (IntKind.u64.wrap (s - nodeN n)) (by rw [u64_wrap]; omega) (by rw [u64_wrap]; omega)
    rw [u64_wrap] at this
    show subN (IntKind.u64.wrap (s - nodeN n)) l = (s - (nodeN n + sumI l)) % 18446744073709551616
    rw [u64_wrap, this]
    omega
theorem addN_in (l : List Nd) (s : Int) (h0 : 0 ≤ s) (h1 : s < 18446744073709551616) : 0 ≤ addN s l ∧ addN s l < 18446744073709551616 := by rw [addN_mod l s h0 h1]; omega
theorem subN_in (l : List Nd) (s : Int) (h0 : 0 ≤ s) (h1 : s < 18446744073709551616) : 0 ≤ subN s l ∧ subN s l < 18446744073709551616 := by rw [subN_mod l s h0 h1]; omega

/-- Turns one by one, and all at once, and in the other order, come to one number. -/
theorem steps_law (d : Int) (h0 : 0 ≤ d) (h1 : d < 18446744073709551616) (A B : List Nd) : addN (subN d A) B = subN (addN d B) A ∧ subN (addN d B) A = addN (subN (subN (addN d B) A) A) A := by
  have a1 := addN_in B d h0 h1
  have a2 := subN_in A d h0 h1
  have a3 := subN_in A _ a1.1 a1.2
  have a4 := subN_in A _ a3.1 a3.2
  have e1 := addN_mod B _ a2.1 a2.2
  have e2 := subN_mod A d h0 h1
  have e3 := addN_mod B d h0 h1
  have e4 := subN_mod A _ a1.1 a1.2
  have e5 := subN_mod A _ a3.1 a3.2
  have e6 := addN_mod A _ a4.1 a4.2
  constructor <;> omega

theorem addN_one (s : Int) (l : List Nd) (k : Nat) (h : k < l.length) : addN (addN s (l.take k)) [l[k]] = addN s (l.take (k + 1)) := by
  rw [addN_take s l k h]; rfl
theorem subN_one (s : Int) (l : List Nd) (k : Nat) (h : k < l.length) : subN (subN s (l.take k)) [l[k]] = subN s (l.take (k + 1)) := by
  rw [subN_take s l k h]; rfl

/-- One node out of a slice of nodes. -/
theorem NdsAt.sub {B : Nat} {w : World} {b off : Nat} {L : List Nd} (h : NdsAt B w (some ⟨b, off, none⟩) L) (k : Nat) (hk : k < L.length) : NdsAt B w (some ⟨b, off + k * 17, none⟩) [L[k]] := fun i n hi => by
  cases i with
  | succ i => simp at hi
  | zero =>
    obtain rfl : L[k] = n := by simpa using hi
    obtain ⟨b', off', v, e, h1, h2, h3⟩ := h k L[k] (List.getElem?_eq_getElem hk)
    simp only [Option.some.injEq, Addr.mk.injEq, and_true] at e
    obtain ⟨rfl, rfl⟩ := e
    exact ⟨b, off + k * 17, v, rfl, h1, h2, fun j u hj => by simpa using h3 j u hj⟩
theorem NdsAt.nil (B : Nat) (w : World) (a : Option Addr) : NdsAt B w a [] := fun i n h => by simp at h
theorem NdsAt.addr {B : Nat} {w : World} {a : Option Addr} {L : List Nd} (h : NdsAt B w a L) (hk : 0 < L.length) : ∃ b off, a = some ⟨b, off, none⟩ := by
  obtain ⟨b, off, v, e, _⟩ := h 0 L[0] (List.getElem?_eq_getElem hk)
  exact ⟨b, off, e⟩

theorem steps_walk (A B : List Nd) (aA aB : Option Addr) (cA cB : Nat) (w : World) (hT : Tabs w) (hA : NdsAt w.heap.size w aA A) (hB : NdsAt w.heap.size w aB B) (hfA : ∀ n ∈ A, Fit n) (hfB : ∀ n ∈ B, Fit n) (hlA : A.length * 168 ≤ 140737488355328) (hlB : B.length * 168 ≤ 140737488355328) (hcA : A.length ≤ cA) (hcB : B.length ≤ cB) :
    Calls Tryd.prog 5 #[.slice aA A.length cA, .slice aB B.length cB] w fun e w' => e = .returned (.bool true) ∧ Below w.heap.size w w' := by
  have hsz := hT.size
  have C1 := Lib.hid (alive9_any w hT)
  have HA := Lib.hid hA
  have HB := Lib.hid hB
  have HFA := Lib.hid hfA
  have HFB := Lib.hid hfB
  have HT := Lib.hid hT
  clear hA hB hfA hfB hT
  go_enter Tryd.func5, Tryd.ntmps5
  go_wp2_with fail
  refine C1.out.mono ?_
  rintro e W1 ⟨rfl, hE1⟩
  have hE1 : Ext w W1 := hE1
  have C2 := Lib.hid (new_any W1)
  have hz1 := hE1.size
  have HE1 := Lib.hid hE1
  clear C1 hE1
  go_wp2_with fail
  refine C2.out.mono ?_
  rintro e W2 ⟨bt, rfl, hTr, hE2⟩
  have hE2 : Ext W1 W2 := hE2
  have hB2 := HE1.out.trans hE2
  have hT2 := HT.out.below hB2 hsz
  obtain ⟨d, hdE⟩ : ∃ d, d = addN 0 ([(keyN rootN, rootN)].map (·.2)) := ⟨_, rfl⟩
  have hd : 0 ≤ d ∧ d < 18446744073709551616 := by rw [hdE]; exact addN_in _ 0 (by omega) (by omega)
  have C3 := begin_any _ W2 bt _ _ hTr hT2 (by simp)
  rw [← hdE] at C3
  have HTr := Lib.hid hTr
  have HDE := Lib.hid hdE
  have C3 := Lib.hid C3
  have HB2 := Lib.hid hB2
  have hz2 := hB2.size
  clear C2 hTr hE2 hB2 hT2 hdE
  go_wp2_with fail
  refine C3.out.mono ?_
  rintro e W3 ⟨bx, rfl, hbx, hx3, hE3⟩
  have hE3 : Ext W2 W3 := hE3
  have hz3 := hE3.size
  have hB3 := HB2.out.trans hE3
  have hbx' : bx < W3.heap.size := (Array.getElem?_eq_some_iff.1 hx3).1
  have C4 := begin_any _ W3 bt _ _ (HTr.out.ext hE3) (HT.out.below hB3 hsz) (by simp)
  rw [← HDE.out] at C4
  have C4 := Lib.hid C4
  have HE3 := Lib.hid hE3
  have HB3 := Lib.hid hB3
  have HX3 := Lib.hid hx3
  clear C3 hE3 hB3 hx3
  go_wp2_with fail
  refine C4.out.mono ?_
  rintro e W4 ⟨bY, rfl, hby, hy4, hE4⟩
  have hE4 : Ext W3 W4 := hE4
  have hz4 := hE4.size
  have hB4 := HB3.out.trans hE4
  have hby' : bY < W4.heap.size := (Array.getElem?_eq_some_iff.1 hy4).1
  have C5 := begin_any _ W4 bt _ _ (HTr.out.ext (HE3.out.trans hE4)) (HT.out.below hB4 hsz) (by simp)
  rw [← HDE.out] at C5
  have C5 := Lib.hid C5
  have HX4 := Lib.hid (show RunAt W4 bx d from (hE4.block bx hbx').trans HX3.out)
  have HB4 := Lib.hid hB4
  have HY4 := Lib.hid hy4
  clear C4 hE4 hB4 hy4 HX3 HTr HE3 HDE
  go_wp2_with fail
  refine C5.out.mono ?_
  rintro e W5 ⟨bz, rfl, hbz, hz5, hE5⟩
  have hE5 : Ext W4 W5 := hE5
  have hz5' := hE5.size
  have hB5 := HB4.out.trans hE5
  have hbz' : bz < W5.heap.size := (Array.getElem?_eq_some_iff.1 hz5).1
  have HX5 := Lib.hid (show RunAt W5 bx d from (hE5.block bx (by omega)).trans HX4.out)
  have HY5 := Lib.hid (show RunAt W5 bY d from (hE5.block bY hby').trans HY4.out)
  have HZ5 := Lib.hid hz5
  have C6 := Lib.hid (turn_any bx d A B aA aB cA cB w.heap.size W5 HX5.out (HT.out.below hB5 hsz) (HA.out.below hB5) (HB.out.below hB5) HFA.out HFB.out hsz (by omega) (by omega) (by omega) (by omega))
  have HB5 := Lib.hid hB5
  clear C5 hE5 hB5 hz5 HX4 HY4
  go_wp2_with fail
  refine C6.out.mono ?_
  rintro e W6 ⟨rfl, hx6, hU6⟩
  have hz6 := hU6.size
  have hB6 := HB5.out.trans' (hU6.below (by omega) (by omega))
  have hy6 := hU6.run HY5.out (show bY ≠ bx by omega)
  have hz6' := hU6.run HZ5.out (show bz ≠ bx by omega)
  obtain ⟨xv, hxv⟩ : ∃ xv, xv = addN (subN d A) B := ⟨_, rfl⟩
  rw [← hxv] at hx6
  have HXV := Lib.hid hxv
  clear C6 hU6 hxv HX5 HY5 HZ5
  go_wp2_with fail
  go_loopw [9] (fun i wr => ∃ k : Nat, k ≤ B.length ∧ i = .int .i64 k ∧ RunAt wr bY (addN d (B.take k)) ∧ RunAt wr bx xv ∧ RunAt wr bz d ∧ Below w.heap.size w wr ∧ W5.heap.size ≤ wr.heap.size) (fun i _ => B.length - (intOf i).toNat)
  case atStart => exact ⟨0, Nat.zero_le _, rfl, hy6, hx6, hz6', hB6, by omega⟩
  case round =>
    obtain ⟨k, hk, rfl, hy, hx, hz, hBw, hzw⟩ := hrel
    by_cases hlt : k < B.length
    · obtain ⟨bb, bo, hba⟩ := HB.out.addr (show 0 < B.length by omega)
      have hBS := (HB.out.below hBw)
      rw [hba] at hBS ⊢
      have CT := turn_any bY (addN d (B.take k)) [] [B[k]] none (some ⟨bb, bo + k * 17, none⟩) 0 (cB - k) w.heap.size wr hy (HT.out.below hBw hsz) (NdsAt.nil _ _ _) (hBS.sub k hlt) (fun n hn => by simp at hn) (fun n hn => HFB.out n (by simp at hn; rw [hn]; exact List.getElem_mem hlt)) hsz (by omega) (by omega) (by simp) (by simp)
      rw [show addN (subN (addN d (B.take k)) []) [B[k]] = addN d (B.take (k + 1)) from addN_one d B k hlt] at CT
      have CT : Calls Tryd.prog 21 #[.pointer (some ⟨bY, 0, none⟩), .slice none 0 0, .slice (some ⟨bb, bo + k * 17, none⟩) 1 (cB - k)] wr (TurnOut bY (addN d (B.take (k + 1))) wr) := CT
      have CT := Lib.hid CT
      have HX := Lib.hid hx
      have HZ := Lib.hid hz
      have HBW := Lib.hid hBw
      clear hBS hx hz hy hBw
      go_wp2_with fail
      refine CT.out.mono ?_
      rintro e W7 ⟨rfl, hy7, hU7⟩
      have hz7 := hU7.size
      have hB7 := HBW.out.trans (hU7.below (by omega) (by omega))
      have hx7 := hU7.run HX.out (show bx ≠ bY by omega)
      have hz7' := hU7.run HZ.out (show bz ≠ bY by omega)
      have HY7 := Lib.hid hy7
      have HX7 := Lib.hid hx7
      have HZ7 := Lib.hid hz7'
      have HB7 := Lib.hid hB7
      clear hy7 hU7 hB7 hx7 hz7' CT HX HZ HBW
      go_wp2
      go_roundw
      case rel => exact ⟨k + 1, by omega, by go_num, HY7.out, HX7.out, HZ7.out, HB7.out, by omega⟩
      case measure => simp [intOf]; omega
    · obtain rfl : k = B.length := by omega
      rw [List.take_length] at hy
      clear hy6 hx6 hz6' hB6
      go_wp2
      go_loopw [10] (fun i wr => ∃ k : Nat, k ≤ A.length ∧ i = .int .i64 k ∧ RunAt wr bY (subN (addN d B) (A.take k)) ∧ RunAt wr bx xv ∧ RunAt wr bz d ∧ Below w.heap.size w wr ∧ W5.heap.size ≤ wr.heap.size) (fun i _ => A.length - (intOf i).toNat)
      case atStart => exact ⟨0, Nat.zero_le _, rfl, hy, hx, hz, hBw, hzw⟩
      case round =>
        clear hy hx hz hBw hzw
        obtain ⟨k, hk, rfl, hy, hx, hz, hBw, hzw⟩ := hrel
        by_cases hlt : k < A.length
        · obtain ⟨bb, bo, hba⟩ := HA.out.addr (show 0 < A.length by omega)
          have hBS := (HA.out.below hBw)
          rw [hba] at hBS ⊢
          have CT := turn_any bY (subN (addN d B) (A.take k)) [A[k]] [] (some ⟨bb, bo + k * 17, none⟩) none (cA - k) 0 w.heap.size wr hy (HT.out.below hBw hsz) (hBS.sub k hlt) (NdsAt.nil _ _ _) (fun n hn => HFA.out n (by simp at hn; rw [hn]; exact List.getElem_mem hlt)) (fun n hn => by simp at hn) hsz (by omega) (by omega) (by simp) (by simp)
          rw [show addN (subN (subN (addN d B) (A.take k)) [A[k]]) [] = subN (addN d B) (A.take (k + 1)) from subN_one (addN d B) A k hlt] at CT
          have CT : Calls Tryd.prog 21 #[.pointer (some ⟨bY, 0, none⟩), .slice (some ⟨bb, bo + k * 17, none⟩) 1 (cA - k), .slice none 0 0] wr (TurnOut bY (subN (addN d B) (A.take (k + 1))) wr) := CT
          have CT := Lib.hid CT
          have HX := Lib.hid hx
          have HZ := Lib.hid hz
          have HBW := Lib.hid hBw
          clear hBS hx hz hy hBw
          go_wp2_with fail
          refine CT.out.mono ?_
          rintro e W7 ⟨rfl, hy7, hU7⟩
          have hz7 := hU7.size
          have hB7 := HBW.out.trans (hU7.below (by omega) (by omega))
          have hx7 := hU7.run HX.out (show bx ≠ bY by omega)
          have hz7' := hU7.run HZ.out (show bz ≠ bY by omega)
          have HY7 := Lib.hid hy7
          have HX7 := Lib.hid hx7
          have HZ7 := Lib.hid hz7'
          have HB7 := Lib.hid hB7
          clear hy7 hU7 hB7 hx7 hz7' CT HX HZ HBW
          go_wp2
          go_roundw
          case rel => exact ⟨k + 1, by omega, by go_num, HY7.out, HX7.out, HZ7.out, HB7.out, by omega⟩
          case measure => simp [intOf]; omega
        · obtain rfl : k = A.length := by omega
          rw [List.take_length] at hy
          obtain ⟨yv, hyv⟩ : ∃ yv, yv = subN (addN d B) A := ⟨_, rfl⟩
          rw [← hyv] at hy
          obtain ⟨zv, hzv⟩ : ∃ zv, zv = addN (subN (subN (addN d B) A) A) A := ⟨_, rfl⟩
          have hlaw := steps_law d hd.1 hd.2 A B
          rw [← HXV.out, ← hzv, ← hyv] at hlaw
          obtain ⟨hxy, hyz⟩ := hlaw
          have C7 : Calls Tryd.prog 21 #[.pointer (some ⟨bz, 0, none⟩), .slice none 0 0, .slice aB B.length cB] wr (TurnOut bz (addN d B) wr) :=
            turn_any bz d [] B none aB 0 cB w.heap.size wr hz (HT.out.below hBw hsz) (NdsAt.nil _ _ _) (HB.out.below hBw) (fun n hn => by simp at hn) HFB.out hsz (by omega) (by omega) (by simp) (by omega)
          have C7 := Lib.hid C7
          have HX := Lib.hid hx
          have HY := Lib.hid hy
          have HBW := Lib.hid hBw
          have HZV := Lib.hid hzv
          have HYV := Lib.hid hyv
          clear hx hy hz hBw hzv hyv HXV
          go_wp2_with fail
          refine C7.out.mono ?_
          rintro e W7 ⟨rfl, hz7, hU7⟩
          have hs7 := hU7.size
          have hB7 := HBW.out.trans (hU7.below (by omega) (by omega))
          have HX7 := Lib.hid (hU7.run HX.out (show bx ≠ bz by omega))
          have HY7 := Lib.hid (hU7.run HY.out (show bY ≠ bz by omega))
          have C8 : Calls Tryd.prog 21 #[.pointer (some ⟨bz, 0, none⟩), .slice aA A.length cA, .slice none 0 0] W7 (TurnOut bz (subN (addN d B) A) W7) :=
            turn_any bz (addN d B) A [] aA none cA 0 w.heap.size W7 hz7 (HT.out.below hB7 hsz) (HA.out.below hB7) (NdsAt.nil _ _ _) HFA.out (fun n hn => by simp at hn) hsz (by omega) (by omega) (by omega) (by simp)
          have C8 := Lib.hid C8
          have HB7 := Lib.hid hB7
          clear C7 hU7 hz7 hB7 HX HY HBW
          go_wp2_with fail
          refine C8.out.mono ?_
          rintro e W8 ⟨rfl, hz8, hU8⟩
          have hs8 := hU8.size
          have hB8 := HB7.out.trans (hU8.below (by omega) (by omega))
          have HX8 := Lib.hid (hU8.run HX7.out (show bx ≠ bz by omega))
          have HY8 := Lib.hid (hU8.run HY7.out (show bY ≠ bz by omega))
          have C9 := turn_any bz (subN (addN d B) A) A A aA aA cA cA w.heap.size W8 hz8 (HT.out.below hB8 hsz) (HA.out.below hB8) (HA.out.below hB8) HFA.out HFA.out hsz (by omega) (by omega) (by omega) (by omega)
          rw [← HZV.out] at C9
          have C9 := Lib.hid C9
          have HB8 := Lib.hid hB8
          clear C8 hU8 hz8 hB8 HX7 HY7 HB7
          go_wp2_with fail
          refine C9.out.mono ?_
          rintro e W9 ⟨rfl, hz9, hU9⟩
          have hs9 := hU9.size
          have HB9 := Lib.hid (HB8.out.trans (hU9.below (by omega) (by omega)))
          have C10 := Lib.hid (value_any bx xv W9 (hU9.run HX8.out (show bx ≠ bz by omega)))
          have C11 := Lib.hid (value_any bY yv W9 (hU9.run HY8.out (show bY ≠ bz by omega)))
          have C12 := Lib.hid (value_any bz zv W9 hz9)
          have e1 : (xv == yv) = true := by simpa using hxy
          have e2 : (yv == zv) = true := by simpa using hyz
          clear C9 hU9 hz9 HX8 HY8 HB8 HZV HYV
          go_wp2_with fail
          refine C10.out.mono ?_
          rintro e W10 ⟨rfl, rfl⟩
          clear C10
          go_wp2_with fail
          refine C11.out.mono ?_
          rintro e W10 ⟨rfl, rfl⟩
          go_wp2_with fail
          refine C11.out.mono ?_
          rintro e W10 ⟨rfl, rfl⟩
          clear C11
          go_wp2_with fail
          refine C12.out.mono ?_
          rintro e W10 ⟨rfl, rfl⟩
          clear C12
          go_wp2
          go_ret
          exact ⟨by simp [hyz], HB9.out⟩
end Go.Proofs.YtfgjbcejpjcpeaaDoor
