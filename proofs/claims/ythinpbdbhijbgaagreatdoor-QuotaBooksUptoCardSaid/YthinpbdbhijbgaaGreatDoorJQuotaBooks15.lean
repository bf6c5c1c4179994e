/- The walk of a quota book's Exceeds. The walks of arborref05's New and arborref07's Root. The walk of arborlaw10's live. The law QuotaMore, walked. The law QuotaExceeds, walked. What From takes is of the list. The walk of layer 10's laid: both trees, in blocks apart. What holds while a region clones a node, then turns one tree by the clone and the other by the node. The nodes of a tree in another order are the same tree: the plain law; a list turned round and about. Plain law: a change that passes no quota makes none passed that was not. No program in sight. -/
import Derived.Test.YthinpbdbhijbgaaGreatDoorJQuotaBooks14
import Derived.Test.YthinpbdbhijbgaaGreatDoorJQuotaBooks8
import Derived.Test.YthinpbdbhijbgaaGreatDoorJQuotaBooks4
import Derived.Test.YthinpbdbhijbgaaGreatDoorJQuotaBooks9
import Derived.Test.YthinpbdbhijbgaaGreatDoorJQuotaBooks11
import Derived.Lib.SlBytesConst
import Derived.Test.YthinpbdbhijbgaaGreatDoorJQuotaBooks13
import Derived.Test.YthinpbdbhijbgaaGreatDoorJQuotaBooks12
import Derived.Test.YthinpbdbhijbgaaGreatDoorJQuotaBooks10
namespace Go.Proofs.YthinpbdbhijbgaaGreatDoor
open Go.RowKit Go.Sort
set_option maxHeartbeats 4000000
set_option maxRecDepth 100000

theorem qexceeds_b (pv : Value) (M : List (Key × Nd)) (w : World) (hM : MOk M) (hG : GetsM pv M w) (s : ByteArray) (hs : s.size ≤ 9223372036854775800) (dn db : Int) (x : Nat) (uc ub : Nd → Int)
    (hU : ∀ W n, Ext w W → n ∈ overL M s → Calls Tryz.prog 109 #[.string n.path, .pointer (some ⟨x, 0, none⟩)] W fun e w' => e = .returned (.agg #[.int .i64 (uc n), .int .i64 (ub n)]) ∧ Ext W w') :
    Calls Tryz.prog 108 #[pv, .string s, .int .i64 dn, .int .i64 db, .func (.func 109) #[] #[.pointer (some ⟨x, 0, none⟩)]] w (ExcOut (fun n => passB n.count (uc n) dn || passB n.bytes (ub n) db) (overL M s) w) := by
  have C1 := Lib.hid (qover_any pv M w hM hG s hs)
  have hle := overL_le M s
  have HU := Lib.hid hU
  clear hG hU
  generalize overL M s = L at *
  generalize hPP : (fun n : Nd => passB n.count (uc n) dn || passB n.bytes (ub n) db) = PP
  have HPP := Lib.hid (fun n => (congrFun hPP n).symm)
  clear hPP
  go_enter Tryz.func108, Tryz.ntmps108
  go_wp2_with fail
  refine C1.out.mono ?_
  rintro e W1 ⟨v, rfl, hown, hE1⟩
  obtain ⟨a, c, vs, rfl, _, _, hrows, _⟩ := hown.rows
  have HROWS := Lib.hid hrows
  have HE1 := Lib.hid hE1
  have hz1 := hE1.size
  clear C1 hown hrows hE1
  go_wp2
  go_loopw [19] (fun i wr => ∃ k : Nat, k ≤ L.length ∧ i = .int .i64 k ∧ Hid (L.find? PP = (L.drop k).find? PP) ∧ Ext W1 wr) (fun i _ => L.length - (intOf i).toNat)
  case atStart => exact ⟨0, Nat.zero_le _, rfl, rfl, Ext.refl _⟩
  case round =>
    obtain ⟨k, hk, rfl, HF, hE⟩ := hrel
    by_cases hlt : k < L.length
    · obtain ⟨bl, off, da, dc, aa, ac, ea, hSb, hc, hD, hA, _⟩ := HROWS.out.row (List.getElem?_eq_getElem hlt)
      subst ea
      have hskip := find_skip (P := PP) hlt
      have hhit := find_hit (P := PP) hlt
      have hmem := List.getElem_mem hlt
      have hP := HPP.out L[k]
      generalize L[k] = n at *
      have hcw : ∀ j u, (ndC n (.slice da n.data.length dc) (.slice aa n.acl.length ac))[j]? = some u → wr.cell? ((⟨bl, off + k * 17, none⟩ : Addr).add j) = some u := fun j u hj => by
        rw [addr_add, hE.cell (p := ⟨bl, off + k * 17 + j, none⟩) hSb.2]; exact hc j u hj
      obtain ⟨X1, hX1⟩ : ∃ X1, X1 = wr.alloc (.cells (ndC n (.slice da n.data.length dc) (.slice aa n.acl.length ac)) 44) := ⟨_, rfl⟩
      have HSET1 := Lib.hid ((setRow_alloc wr zeroNd (ndC n (.slice da n.data.length dc) (.slice aa n.acl.length ac)) 44).trans hX1.symm)
      have HNEW1 := Lib.hid (heap_alloc_new wr (.cells zeroNd 44))
      have hEX1 : Ext wr X1 := by rw [hX1]; exact Ext.alloc _ _
      have hb1 : X1.heap[wr.heap.size]? = some (.cells (ndC n (.slice da n.data.length dc) (.slice aa n.acl.length ac)) 44 (0, 0)) := by rw [hX1]; exact heap_alloc_new wr _
      have hp : X1.cell? ⟨wr.heap.size, 0, none⟩ = some (.string n.path) := cell_of_row _ _ _ _ _ _ hb1
      have HE := Lib.hid (hE.trans hEX1)
      have CU := Lib.hid (HU.out X1 n (HE1.out.trans HE.out) hmem)
      have HC := Lib.hid hcw
      have HB1 := Lib.hid hb1
      have HHIT := Lib.hid hhit
      have HSKIP := Lib.hid hskip
      have HP := Lib.hid hP
      unfold ndC at HC HSET1
      unfold zeroNd at HSET1 HNEW1
      clear hcw hc hD hA hE hX1 hEX1 hb1 hskip hhit hmem hP
      go_wp2_with (first | (refine wpList_load_at rfl 44 (.tmp 21) rfl _ rfl _ _ HC.out Tryz.underlying44 rfl sizeNd ?_) | (refine wpList_store_row rfl 44 (.tmp 13) (.tmp 22) rfl wr.heap.size _ rfl rfl 44 _ HNEW1.out sizeNd rfl (cells_node n da aa _ _ dc ac) ?_; rw [HSET1.out]))
      refine CU.out.mono ?_
      rintro e X2 ⟨rfl, hE2⟩
      have hE2 : Ext X1 X2 := hE2
      obtain ⟨X3, hX3⟩ : ∃ X3, X3 = X2.alloc (.cells #[.int .i64 (uc n), .int .i64 (ub n)] 107) := ⟨_, rfl⟩
      have HSET2 := Lib.hid ((setRow_alloc X2 zeroUsed #[.int .i64 (uc n), .int .i64 (ub n)] 107).trans hX3.symm)
      have HNEW2 := Lib.hid (heap_alloc_new X2 (.cells zeroUsed 107))
      have hE3 : Ext X1 X3 := hE2.trans (by rw [hX3]; exact Ext.alloc _ _)
      have hb3 : X3.heap[X2.heap.size]? = some (.cells #[.int .i64 (uc n), .int .i64 (ub n)] 107 (0, 0)) := by rw [hX3]; exact heap_alloc_new X2 _
      have hbn : X3.heap[wr.heap.size]? = some (.cells (ndC n (.slice da n.data.length dc) (.slice aa n.acl.length ac)) 44 (0, 0)) := (hE3.block wr.heap.size (Array.getElem?_eq_some_iff.1 HB1.out).1).trans HB1.out
      have u0 : X3.cell? ⟨X2.heap.size, 0, none⟩ = some (.int .i64 (uc n)) := cell_of_row _ _ _ _ _ _ hb3
      have u1 : X3.cell? ⟨X2.heap.size, 1, none⟩ = some (.int .i64 (ub n)) := cell_of_row _ _ _ _ _ _ hb3
      have n0 : X3.cell? ⟨wr.heap.size, 0, none⟩ = some (.string n.path) := cell_of_row _ _ _ _ _ _ hbn
      have n15 : X3.cell? ⟨wr.heap.size, 15, none⟩ = some (.int .i64 n.count) := cell_of_row _ _ _ _ _ _ hbn
      have n16 : X3.cell? ⟨wr.heap.size, 16, none⟩ = some (.int .i64 n.bytes) := cell_of_row _ _ _ _ _ _ hbn
      have CP1 := Lib.hid (passes_any n.count (uc n) dn X3)
      have CP2 := Lib.hid (passes_any n.bytes (ub n) db X3)
      have HE3 := Lib.hid (HE.out.trans hE3)
      unfold zeroUsed at HSET2 HNEW2
      clear CU hE2 hX3 hE3 hb3 hbn hp HB1 HC HSET1 HNEW1
      have hfin : PP n = true → ExcOut PP L w (.returned (.tuple #[.string n.path, .bool true])) X3 := fun h => ⟨by rw [HF.out, HHIT.out h], HE1.out.trans HE3.out⟩
      have HFIN := Lib.hid hfin
      clear hfin
      cases h1 : passB n.count (uc n) dn with
      | true =>
        rw [h1] at CP1 HP
        have HX := Lib.hid (HFIN.out (by rw [HP.out]; rfl))
        clear h1 HFIN CP2
        go_wp2_with (refine wpList_store_row rfl 107 (.tmp 14) (.tmp 26) rfl X2.heap.size _ rfl rfl 107 _ HNEW2.out sizeUsed rfl (by simp [Value.oneCell']) ?_; rw [HSET2.out])
        refine CP1.out.mono ?_
        rintro e X4 ⟨rfl, rfl⟩
        clear CP1
        go_wp2
        go_ret2
        exact HX.out
      | false =>
        rw [h1] at CP1 HP
        cases h2 : passB n.bytes (ub n) db with
        | true =>
          rw [h2] at CP2 HP
          have HX := Lib.hid (HFIN.out (by rw [HP.out]; rfl))
          clear h1 h2 HFIN
          go_wp2_with (refine wpList_store_row rfl 107 (.tmp 14) (.tmp 26) rfl X2.heap.size _ rfl rfl 107 _ HNEW2.out sizeUsed rfl (by simp [Value.oneCell']) ?_; rw [HSET2.out])
          refine CP1.out.mono ?_
          rintro e X4 ⟨rfl, rfl⟩
          clear CP1
          go_wp2_with fail
          refine CP2.out.mono ?_
          rintro e X5 ⟨rfl, rfl⟩
          clear CP2
          go_wp2
          go_ret2
          exact HX.out
        | false =>
          rw [h2] at CP2 HP
          have hf := HF.out.trans (HSKIP.out (by rw [HP.out]; rfl))
          have HF2 := Lib.hid hf
          clear h1 h2 HFIN hf
          go_wp2_with (refine wpList_store_row rfl 107 (.tmp 14) (.tmp 26) rfl X2.heap.size _ rfl rfl 107 _ HNEW2.out sizeUsed rfl (by simp [Value.oneCell']) ?_; rw [HSET2.out])
          refine CP1.out.mono ?_
          rintro e X4 ⟨rfl, rfl⟩
          clear CP1
          go_wp2_with fail
          refine CP2.out.mono ?_
          rintro e X5 ⟨rfl, rfl⟩
          clear CP2 u0 u1 n0 n15 n16
          go_wp2
          go_roundw
          case rel => exact ⟨k + 1, by omega, by go_num, HF2.out, HE3.out⟩
          case measure => simp [intOf]; omega
    · obtain rfl : k = L.length := by omega
      have hfin : ExcOut PP L w (.returned (.tuple #[.string ⟨#[]⟩, .bool false])) wr := ⟨by rw [HF.out, List.drop_length]; rfl, HE1.out.trans hE⟩
      have HFIN := Lib.hid hfin
      clear hfin hE
      go_wp2
      go_ret2
      exact HFIN.out


theorem qbex1_any (x bb bm : Nat) (m : List (Key × Value)) (q : ByteArray) (c b : Int) (w : World) (hx : w.cell? ⟨x, 0, none⟩ = some (.pointer (some ⟨bb, 0, none⟩))) (hB : BookAt w bb bm m) (hv : Pairs m) (hq : q.size ≤ maxLen) (hcb : usedAt m q = .agg #[.int .i64 c, .int .i64 b]) :
    Calls Tryz.prog 109 #[.string q, .pointer (some ⟨x, 0, none⟩)] w fun e w' => e = .returned (.agg #[.int .i64 c, .int .i64 b]) ∧ Ext w w' := by
  obtain ⟨W1, hW1⟩ : ∃ W1, W1 = w.alloc (.cells zeroUsed 107) := ⟨_, rfl⟩
  have hE1 : Ext w W1 := by rw [hW1]; exact Ext.alloc _ _
  have hr1 : W1.heap[w.heap.size]? = some (.cells zeroUsed 107 (0, 0)) := by rw [hW1]; exact heap_alloc_new w _
  have hx1 : (w.alloc (.cells zeroUsed 107)).cell? ⟨x, 0, none⟩ = some (.pointer (some ⟨bb, 0, none⟩)) := by rw [← hW1]; exact (hE1.cell (p := ⟨x, 0, none⟩) (World.block_lt_of_cell? _ _ hx)).trans hx
  have CU := qused_any W1 bb bm m (hB.ext hE1) hv q hq
  rw [hcb] at CU
  have CU := Lib.hid CU
  generalize (mget m q.data.toList).isSome = th at *
  have HW1 := Lib.hid hW1
  have HR1 := Lib.hid hr1
  have HE1 := Lib.hid hE1
  unfold zeroUsed at HW1 hx1
  clear hW1 hr1 hE1 hx hB hcb
  go_enter Tryz.func109, Tryz.ntmps109
  go_wp2_with fail
  rw [← HW1.out]
  refine CU.out.mono ?_
  rintro e W2 ⟨rfl, hE2⟩
  have hE2 : Ext W1 W2 := hE2
  obtain ⟨X3, hX3⟩ : ∃ X3, X3 = W2.alloc (.cells #[.int .i64 c, .int .i64 b] 107) := ⟨_, rfl⟩
  have HSET := Lib.hid ((setRow_alloc W2 zeroUsed #[.int .i64 c, .int .i64 b] 107).trans hX3.symm)
  have HNEW := Lib.hid (heap_alloc_new W2 (.cells zeroUsed 107))
  have hEX : Ext W1 X3 := hE2.trans (by rw [hX3]; exact Ext.alloc _ _)
  have hb3 : X3.heap[W2.heap.size]? = some (.cells #[.int .i64 c, .int .i64 b] 107 (0, 0)) := by rw [hX3]; exact heap_alloc_new W2 _
  have hr3 := (hEX.block w.heap.size (Array.getElem?_eq_some_iff.1 HR1.out).1).trans HR1.out
  have hr4 := setRow_heap X3 w.heap.size _ #[.int .i64 c, .int .i64 b] 107 (0, 0) hr3
  have hE4 : Ext w (X3.setRow w.heap.size #[.int .i64 c, .int .i64 b]) := (HE1.out.trans hEX).trans' ⟨rfl, rfl, rfl, by simp [World.setRow], fun k hk => setRow_other _ _ _ _ (by omega)⟩
  have HB3 := Lib.hid hb3
  have HR3 := Lib.hid hr3
  have HR4 := Lib.hid hr4
  have HE4 := Lib.hid hE4
  unfold zeroUsed at HSET HNEW HR3
  clear CU hE2 hX3 hEX hb3 hr3 hr4 hE4 HW1 hx1
  go_wp2_with (first | (refine wpList_store_row rfl 107 (.tmp 4) (.tmp 10) rfl W2.heap.size _ rfl rfl 107 _ HNEW.out sizeUsed rfl (by simp [Value.oneCell']) ?_; rw [HSET.out]) | (refine wpList_load_row rfl 107 (.tmp 4) rfl W2.heap.size rfl 107 _ (0, 0) _ HB3.out Tryz.underlying107 rfl sizeUsed ?_) | (refine wpList_store_row rfl 107 (.tmp 3) (.tmp 12) rfl w.heap.size _ rfl rfl 107 _ HR3.out sizeUsed rfl (by simp [Value.oneCell']) ?_))
  refine bodyPost_ret (v := .agg #[.int .i64 c, .int .i64 b]) ?_ rfl ⟨rfl, HE4.out⟩
  exact results_cell_row (p := 3) (ty := 107) rfl _ _ w.heap.size 107 #[.int .i64 c, .int .i64 b] (0, 0) _ rfl HR4.out Tryz.underlying107 rfl sizeUsed

theorem qbExceeds_any (pv : Value) (M : List (Key × Nd)) (w : World) (bb bm : Nat) (m : List (Key × Value)) (hB : BookAt w bb bm m) (hv : Pairs m) (uc ub : Nd → Int) (hu : ∀ s n, n ∈ overL M s → usedAt m n.path = .agg #[.int .i64 (uc n), .int .i64 (ub n)]) (hM : MOk M) (hG : GetsM pv M w) (s : ByteArray) (hs : s.size ≤ 9223372036854775800) (dn db : Int) :
    Calls Tryz.prog 43 #[.pointer (some ⟨bb, 0, none⟩), pv, .string s, .int .i64 dn, .int .i64 db] w (ExcOut (fun n => passB n.count (uc n) dn || passB n.bytes (ub n) db) (overL M s) w) := by
  obtain ⟨W1, hW1⟩ : ∃ W1, W1 = w.alloc (.cells #[.pointer (some ⟨bb, 0, none⟩)] 65) := ⟨_, rfl⟩
  have hE1 : Ext w W1 := by rw [hW1]; exact Ext.alloc _ _
  have hx : W1.cell? ⟨w.heap.size, 0, none⟩ = some (.pointer (some ⟨bb, 0, none⟩)) := by rw [hW1]; exact cell_of_row _ _ _ _ _ _ (heap_alloc_new w _)
  have C := qexceeds_b pv M W1 hM (fun W t h1 h2 => hG W t (hE1.trans h1) h2) s hs dn db w.heap.size uc ub (fun W n h hn => by
    have hf := (overL_fit hM hn).path
    exact qbex1_any w.heap.size bb bm m n.path (uc n) (ub n) W ((h.cell (p := ⟨w.heap.size, 0, none⟩) (World.block_lt_of_cell? _ _ hx)).trans hx) ((hB.ext hE1).ext h) hv (by unfold maxLen; omega) (hu s n hn))
  generalize (fun n : Nd => passB n.count (uc n) dn || passB n.bytes (ub n) db) = PP at *
  have HW1 := Lib.hid hW1
  have HE1 := Lib.hid hE1
  unfold ExcOut at C ⊢
  clear hG hB hu hx hW1 hE1
  cases hf : (overL M s).find? PP with
  | none =>
    rw [hf] at C
    have C := Lib.hid C
    clear hf
    go_enter Tryz.func43, Tryz.ntmps43
    go_wp2_with fail
    rw [← HW1.out]
    refine C.out.mono ?_
    rintro e W2 ⟨rfl, hE2⟩
    have HFIN : Hid (Ext w W2) := HE1.out.trans hE2
    clear C hE2 HW1
    go_wp2
    go_ret2
    exact ⟨rfl, HFIN.out⟩
  | some n =>
    rw [hf] at C
    have C := Lib.hid C
    clear hf
    go_enter Tryz.func43, Tryz.ntmps43
    go_wp2_with fail
    rw [← HW1.out]
    refine C.out.mono ?_
    rintro e W2 ⟨rfl, hE2⟩
    have HFIN : Hid (Ext w W2) := HE1.out.trans hE2
    clear C hE2 HW1
    go_wp2
    go_ret2
    exact ⟨rfl, HFIN.out⟩
end Go.Proofs.YthinpbdbhijbgaaGreatDoor
namespace Go.Proofs.YthinpbdbhijbgaaGreatDoor
open Go.RowKit
set_option maxHeartbeats 2000000
set_option maxRecDepth 100000

theorem rnew_any (p : ByteArray) (data : List UInt8) (acl : List Ac) (x y z : Int) (da aa : Option Addr) (dc ac : Nat) (w : World) (hf : Fit (newN p data acl x y z)) (hD : Cells w.heap.size w da (data.map u8v)) (hA : Cells w.heap.size w aa (acCs acl)) :
    Calls Tryz.prog 134 #[.string p, .slice da data.length dc, .slice aa acl.length ac, .int .i64 x, .int .i64 y, .int .i64 z] w (CloneNew (newN p data acl x y z) w) := by
  obtain ⟨i0, hi, hz0, hz1, hz2⟩ := info_parts infoU8
  obtain ⟨i1, hi', hz0', hz1', hz2'⟩ := info_parts infoAc
  have hfd : data.length ≤ 140737488355328 := hf.data
  have hfa : acl.length * 40 ≤ 140737488355328 := hf.acl
  obtain ⟨W1, hW1⟩ : ∃ W1, W1 = w.alloc (.cells zeroNd 44) := ⟨_, rfl⟩
  have hE1 : Ext w W1 := by rw [hW1]; exact Ext.alloc _ _
  have hzW : W1.heap.size = w.heap.size + 1 := by rw [hW1]; simp
  have hr1 : W1.heap[w.heap.size]? = some (.cells zeroNd 44 (0, 0)) := by rw [hW1]; exact heap_alloc_new w _
  have hown1 := ownsRow_empty W1 5 1
  rw [hzW] at hown1
  have hEa : Ext w (W1.alloc (.cells #[] 5)) := hE1.trans (Ext.alloc _ _)
  have hsrc1 : Src Tryz.prog 1 41 (.slice da data.length dc) data.length (data.map u8v) (W1.alloc (.cells #[] 5)) := (hD.below hEa).src Tryz.underlying41 _ _ (by simp) (one_u8 _)
  have HEa := Lib.hid hEa
  have HW1 := Lib.hid hW1
  have HR1 := Lib.hid hr1
  have HA := Lib.hid hA
  rw [hW1] at hown1 hsrc1
  unfold zeroNd at hown1 hsrc1 HW1
  clear hW1 hr1 hEa hD hA hE1
  go_enter Tryz.func134, Tryz.ntmps134
  go_wp2_with (at_builtin; refine wpList_append_src _ rfl (.tmp 14) (.tmp 15) 41 41 rfl (w.heap.size + 1) 5 i0 (.int .u8 0) 1 1 Tryz.underlying41 hi hz0 hz1 hz2 rfl (by decide) _ 0 _ rfl hown1 _ _ _ rfl hsrc1 ?c1 ?c2 ?c3 ?_)
  case c1 => simp only [maxLen]; omega
  case c2 => omega
  case c3 => simp
  intro v1 w4 ho1 hg1 _ _
  rw [← HW1.out] at hg1
  have hz4 := hg1.size
  simp only [World.size_alloc] at hz4
  have hE4 : Ext w w4 := HEa.out.trans' ⟨hg1.os, hg1.tape, hg1.output, hg1.size, fun k hk => hg1.block k (by simp; omega) (fun e => by have h : k = w.heap.size + 1 := Option.some.inj e; omega)⟩
  have hr4 : w4.heap[w.heap.size]? = some (.cells zeroNd 44 (0, 0)) := (hg1.block w.heap.size (by simp; omega) (fun e => by have h : w.heap.size = w.heap.size + 1 := Option.some.inj e; omega)).trans ((heap_alloc_old W1 _ (by omega)).trans HR1.out)
  obtain ⟨va, vc, rfl, hD4⟩ := ownsRow_cells ho1
  have hvb : ∀ b off, va = some ⟨b, off, none⟩ → w.heap.size + 1 ≤ b := by
    intro b off h
    subst h
    rcases ho1.2 with ⟨h, _⟩ | ⟨g, cap, cur, h, k1, _⟩
    · cases h
    · simp only [Value.slice.injEq, Option.some.injEq, Addr.mk.injEq] at h; omega
  have hown2 := ownsRow_empty w4 129 3
  have hEb : Ext w (w4.alloc (.cells #[] 129)) := hE4.trans (Ext.alloc _ _)
  have hsrc2 : Src Tryz.prog 3 42 (.slice aa acl.length ac) acl.length (acCs acl) (w4.alloc (.cells #[] 129)) := (HA.out.below hEb).src Tryz.underlying42 _ _ (acCs_length _) (one_ac _)
  have HD4 := Lib.hid hD4
  have HVB := Lib.hid hvb
  have HR4 := Lib.hid hr4
  have HEb := Lib.hid hEb
  clear ho1 hg1 hown1 hsrc1 hE4 hr4 hEb HW1 HR1 HEa HA hD4 hvb
  go_wp2_with (at_builtin; refine wpList_append_src _ rfl (.tmp 17) (.tmp 18) 42 42 rfl w4.heap.size 129 i1 (.agg #[.int .i32 0, .string ⟨#[]⟩, .string ⟨#[]⟩]) 3 40 Tryz.underlying42 hi' hz0' hz1' hz2' rfl (by decide) _ 0 _ rfl hown2 _ _ _ rfl hsrc2 ?d1 ?d2 ?d3 ?_)
  case d1 => simp only [maxLen]; omega
  case d2 => omega
  case d3 => simp
  intro v2 w6 ho2 hg2 _ _
  have hz6 := hg2.size
  simp only [World.size_alloc] at hz6
  have hE6 : Ext w w6 := HEb.out.trans' ⟨hg2.os, hg2.tape, hg2.output, hg2.size, fun k hk => hg2.block k (by simp; omega) (fun e => by have h : k = w4.heap.size := Option.some.inj e; omega)⟩
  have hr6 : w6.heap[w.heap.size]? = some (.cells zeroNd 44 (0, 0)) := (hg2.block w.heap.size (by simp; omega) (fun e => by have h : w.heap.size = w4.heap.size := Option.some.inj e; omega)).trans ((heap_alloc_old w4 _ (by omega)).trans HR4.out)
  have hD6 : ∀ j u, (data.map u8v)[j]? = some u → ∃ b off, va = some ⟨b, off, none⟩ ∧ (w.heap.size + 1 ≤ b ∧ b < w6.heap.size) ∧ w6.cell? ⟨b, off + j, none⟩ = some u := fun j u hj => by
    obtain ⟨b, off, h1, h2, h3⟩ := HD4.out j u hj
    have h4 := HVB.out b off h1
    exact ⟨b, off, h1, ⟨h4, by omega⟩, (World.cell?_of_block ((hg2.block b (by simp; omega) (fun e => by have h : b = w4.heap.size := Option.some.inj e; omega)).trans (heap_alloc_old w4 _ h2))).trans h3⟩
  obtain ⟨vb, vd, rfl, hA6⟩ := ownsRow_cells ho2
  have hvb2 : ∀ b off, vb = some ⟨b, off, none⟩ → w4.heap.size ≤ b := by
    intro b off h
    subst h
    rcases ho2.2 with ⟨h, _⟩ | ⟨g, cap, cur, h, k1, _⟩
    · cases h
    · simp only [Value.slice.injEq, Option.some.injEq, Addr.mk.injEq] at h; omega
  obtain ⟨cs, hcs⟩ : ∃ cs, cs = ndC (newN p data acl x y z) (.slice va data.length vc) (.slice vb acl.length vd) := ⟨_, rfl⟩
  have hr7 := setRow_heap w6 w.heap.size _ cs 44 (0, 0) hr6
  have hs7 : (w6.setRow w.heap.size cs).heap.size = w6.heap.size := by simp [World.setRow]
  have hE7 : Ext w (w6.setRow w.heap.size cs) := hE6.trans' ⟨rfl, rfl, rfl, by rw [hs7]; exact Nat.le_refl _, fun k hk => setRow_other _ _ _ _ (by omega)⟩
  have cD : CellsS (fun k => w.heap.size ≤ k ∧ k < (w6.setRow w.heap.size cs).heap.size) (w6.setRow w.heap.size cs) va (data.map u8v) := fun j u hj => by
    obtain ⟨b, off, h1, h2, h3⟩ := hD6 j u hj
    exact ⟨b, off, h1, ⟨by omega, by omega⟩, (World.cell?_of_block (setRow_other _ _ _ _ (show b ≠ w.heap.size by omega))).trans h3⟩
  have cA : CellsS (fun k => w.heap.size ≤ k ∧ k < (w6.setRow w.heap.size cs).heap.size) (w6.setRow w.heap.size cs) vb (acCs acl) := fun j u hj => by
    obtain ⟨b, off, h1, h2, h3⟩ := hA6 j u hj
    have h4 := hvb2 b off h1
    exact ⟨b, off, h1, ⟨by omega, by omega⟩, (World.cell?_of_block (setRow_other _ _ _ _ (show b ≠ w.heap.size by omega))).trans h3⟩
  have hfin : CloneNew (newN p data acl x y z) w (.returned (.agg cs)) (w6.setRow w.heap.size cs) := ⟨_, rfl, ⟨va, vc, vb, vd, by rw [hcs]; rfl, cD, cA⟩, hE7⟩
  have HFIN := Lib.hid hfin
  have HR6 := Lib.hid hr6
  have HR7 := Lib.hid hr7
  have hone : cs.all (·.oneCell') = true := by rw [hcs]; exact cells_node (newN p data acl x y z) va vb _ _ vc vd
  have hsz17 : (Tryz.prog.info? 44).map (·.size) = some cs.size := by rw [hcs]; exact sizeNd
  have HONE := Lib.hid hone
  have HSZ := Lib.hid hsz17
  have HCS := Lib.hid hcs
  unfold ndC newN at HCS
  unfold zeroNd at HR6
  clear hfin hr6 hr7 hD6 hA6 hvb2 hE6 hE7 cD cA ho2 hg2 hown2 hsrc2 hone hsz17 hcs HD4 HVB HR4 HEb
  go_wp2_with (rw [← HCS.out]; refine wpList_store_row rfl 44 (.tmp 12) (.tmp 26) rfl w.heap.size _ rfl rfl 44 _ HR6.out HSZ.out (by rw [HCS.out]; rfl) HONE.out ?_)
  refine bodyPost_ret (v := .agg cs) ?_ rfl HFIN.out
  exact results_cell_row (p := 12) (ty := 44) rfl _ _ w.heap.size 44 cs (0, 0) _ rfl HR7.out Tryz.underlying44 rfl HSZ.out

theorem rroot_any (w : World) : Calls Tryz.prog 59 #[] w (CloneNew rootN w) := by
  obtain ⟨W1, hW1⟩ : ∃ W1, W1 = w.alloc (.cells zeroNd 44) := ⟨_, rfl⟩
  obtain ⟨W2, hW2⟩ : ∃ W2, W2 = W1.alloc (.cells #[.int .i32 31, .string ⟨#[119, 111, 114, 108, 100]⟩, .string ⟨#[97, 110, 121, 111, 110, 101]⟩] 129) := ⟨_, rfl⟩
  have hE1 : Ext w W1 := by rw [hW1]; exact Ext.alloc _ _
  have hE2 : Ext W1 W2 := by rw [hW2]; exact Ext.alloc _ _
  have hz1 : W1.heap.size = w.heap.size + 1 := by rw [hW1]; simp
  have hz2 : W2.heap.size = w.heap.size + 1 + 1 := by rw [hW2]; simp [hz1]
  have hr2 : W2.heap[w.heap.size]? = some (.cells zeroNd 44 (0, 0)) := (hE2.block _ (by omega)).trans (by rw [hW1]; exact heap_alloc_new w _)
  have hA : Cells W2.heap.size W2 (some ⟨w.heap.size + 1, 0, none⟩) (acCs [rootAc]) := fun j u hj => by
    refine ⟨_, 0, rfl, by omega, ?_⟩
    have h := heap_alloc_new W1 (.cells #[.int .i32 31, .string ⟨#[119, 111, 114, 108, 100]⟩, .string ⟨#[97, 110, 121, 111, 110, 101]⟩] 129)
    rw [← hW2, hz1] at h
    rw [Nat.zero_add, cell_of_row _ _ _ _ _ _ h]
    simpa [acCs, acC, rootAc] using hj
  have C1 := rnew_any rootP [] [rootAc] 0 0 0 none (some ⟨w.heap.size + 1, 0, none⟩) 0 1 W2 (right_fit rootN_right).1 (Cells.nil _ _ _) hA
  have hW : (w.alloc (.cells zeroNd 44)).alloc (.cells #[.int .i32 31, .string ⟨#[119, 111, 114, 108, 100]⟩, .string ⟨#[97, 110, 121, 111, 110, 101]⟩] 129) = W2 := by rw [hW2, hW1]
  have HW := Lib.hid hW
  have HR2 := Lib.hid hr2
  have HE2 := Lib.hid (hE1.trans hE2)
  have C1 := Lib.hid C1
  unfold zeroNd at HW HR2
  unfold rootP at C1
  clear hW hA hr2 hE1 hE2 hW2 hW1
  go_enter Tryz.func59, Tryz.ntmps59
  go_wp2_with fail
  rw [HW.out]
  refine C1.out.mono ?_
  rintro e w3 ⟨v, rfl, hN, hE3⟩
  have hE3 : Ext W2 w3 := hE3
  obtain ⟨va, vc, vb, vd, rfl, h1, h2⟩ := hN
  have hz3 := hE3.size
  have hr3 := (hE3.block w.heap.size (by omega)).trans HR2.out
  obtain ⟨cs, hcs⟩ : ∃ cs, cs = ndC rootN (.slice va 0 vc) (.slice vb 1 vd) := ⟨_, rfl⟩
  have hr4 := setRow_heap w3 w.heap.size _ cs 44 (0, 0) hr3
  have hs4 : (w3.setRow w.heap.size cs).heap.size = w3.heap.size := by simp [World.setRow]
  have hE4 : Ext w (w3.setRow w.heap.size cs) := (HE2.out.trans hE3).trans' ⟨rfl, rfl, rfl, by rw [hs4]; exact Nat.le_refl _, fun k hk => setRow_other _ _ _ _ (by omega)⟩
  have hk : ∀ (b o : Nat) u, (W2.heap.size ≤ b ∧ b < w3.heap.size) → w3.cell? ⟨b, o, none⟩ = some u → (w3.setRow w.heap.size cs).cell? ⟨b, o, none⟩ = some u := fun b o u hb hu =>
    (World.cell?_of_block (setRow_other _ _ _ _ (show b ≠ w.heap.size by have := hb.1; omega))).trans hu
  have hfin : CloneNew rootN w (.returned (.agg cs)) (w3.setRow w.heap.size cs) := ⟨_, rfl, ⟨va, vc, vb, vd, by rw [hcs]; rfl, h1.imp (fun b hb => ⟨by omega, by omega⟩) hk, h2.imp (fun b hb => ⟨by omega, by omega⟩) hk⟩, hE4⟩
  have HFIN := Lib.hid hfin
  have HR3 := Lib.hid hr3
  have HR4 := Lib.hid hr4
  have HONE := Lib.hid (show cs.all (·.oneCell') = true by rw [hcs]; exact cells_node rootN va vb 0 1 vc vd)
  have HSZ := Lib.hid (show (Tryz.prog.info? 44).map (·.size) = some cs.size by rw [hcs]; exact sizeNd)
  have HS17 := Lib.hid (show cs.size = 17 by rw [hcs]; rfl)
  have hcs2 : ndC (newN ⟨#[47]⟩ [] [rootAc] 0 0 0) (.slice va (newN ⟨#[47]⟩ [] [rootAc] 0 0 0).data.length vc) (.slice vb (newN ⟨#[47]⟩ [] [rootAc] 0 0 0).acl.length vd) = cs := by rw [hcs]; rfl
  rw [hcs2]
  clear hfin hr3 hr4 hE4 hE3 h1 h2 C1 hk hcs hcs2
  go_wp2_with (refine wpList_store_row rfl 44 (.tmp 0) (.tmp 4) rfl w.heap.size _ rfl rfl 44 _ HR3.out HSZ.out (by rw [HS17.out]; rfl) HONE.out ?_)
  refine bodyPost_ret (v := .agg cs) ?_ rfl HFIN.out
  exact results_cell_row (p := 0) (ty := 44) rfl _ _ w.heap.size 44 cs (0, 0) _ rfl HR4.out Tryz.underlying44 rfl HSZ.out
end Go.Proofs.YthinpbdbhijbgaaGreatDoor
namespace Go.Proofs.YthinpbdbhijbgaaGreatDoor
open Go.RowKit Go.Sort
set_option maxHeartbeats 8000000
set_option maxRecDepth 100000

def liveA : Nd := ⟨⟨#[47, 97]⟩, [120, 121], [], 0, 0, 0, 0, 0, 0, 0, 0, 0, 0, 0, true, 3, 10⟩
def liveB : Nd := ⟨⟨#[47, 97, 47, 98]⟩, [49, 50, 51], [], 0, 0, 0, 0, 0, 0, 0, 0, 0, 0, 0, false, 0, 0⟩
def liveL : List Nd := [rootN, liveA, liveB]
def liveM : List (Key × Nd) := [(keyN rootN, rootN), (keyN liveA, liveA), (keyN liveB, liveB)]
theorem live_from : fromN liveL = .ok liveM := by kernel_rfl
theorem live_right : ∀ n ∈ liveL, rightN n = 0 := by
  have h : (liveL.all fun n => rightN n == 0) = true := by decide +kernel
  exact fun n hn => by simpa using List.all_eq_true.1 h n hn
theorem live_over : overL liveM ⟨#[47, 97, 47, 98, 47, 99]⟩ = [liveA] := by kernel_rfl
theorem live_first : (overL liveM ⟨#[47, 97, 47, 99]⟩).find? (overB liveM 1 6) = some liveA := by kernel_rfl
theorem live_none : (overL liveM ⟨#[47, 97, 47, 99]⟩).find? (overB liveM 1 5) = none := by kernel_rfl
theorem live_used : mget (usedL liveM) (⟨#[47, 97]⟩ : ByteArray).data.toList = some (.agg #[.int .i64 2, .int .i64 5]) := by kernel_rfl
theorem live_clo : Clo liveM := by
  intro x hx h1
  unfold liveM at hx ⊢
  simp only [List.mem_cons, List.not_mem_nil, or_false] at hx ⊢
  rcases hx with rfl | rfl | rfl
  · exact absurd (by decide +kernel) h1
  · exact ⟨_, .inl rfl, by apply ba_ext; decide +kernel⟩
  · exact ⟨_, .inr (.inl rfl), by apply ba_ext; decide +kernel⟩

def liveRow (g : Nat) (va vb : Option Addr) (vc vd : Nat) : List Value :=
  (ndC rootN (.slice va 0 vc) (.slice vb 1 vd)).toList ++ ((ndC liveA (.slice (some ⟨g, 0, none⟩) 2 2) (.slice none 0 0)).toList ++ (ndC liveB (.slice (some ⟨g + 1, 0, none⟩) 3 3) (.slice none 0 0)).toList)
theorem row3_at {a b c : List Value} (ha : a.length = 17) (hb : b.length = 17) : (∀ j u, a[j]? = some u → (a ++ (b ++ c))[0 + 0 * 17 + j]? = some u) ∧ (∀ j u, b[j]? = some u → (a ++ (b ++ c))[0 + 1 * 17 + j]? = some u) ∧ ∀ j u, c[j]? = some u → (a ++ (b ++ c))[0 + 2 * 17 + j]? = some u := by
  refine ⟨fun j u h => ?_, fun j u h => ?_, fun j u h => ?_⟩
  · have := (List.getElem?_eq_some_iff.1 h).1
    rw [List.getElem?_append_left (by omega), show 0 + 0 * 17 + j = j by omega]; exact h
  · have := (List.getElem?_eq_some_iff.1 h).1
    rw [List.getElem?_append_right (by omega), List.getElem?_append_left (by omega), show 0 + 1 * 17 + j - a.length = j by omega]; exact h
  · rw [List.getElem?_append_right (by omega), List.getElem?_append_right (by omega), show 0 + 2 * 17 + j - a.length - b.length = j by omega]; exact h

theorem live_nds (W1 : World) (va vb : Option Addr) (vc vd : Nat) (h1 : Cells W1.heap.size W1 va (rootN.data.map u8v)) (h2 : Cells W1.heap.size W1 vb (acCs rootN.acl)) (Wc : World)
    (hWc : ((W1.alloc (.cells #[.int .u8 120, .int .u8 121] 5 (2, 3))).alloc (.cells #[.int .u8 49, .int .u8 50, .int .u8 51] 5 (3, 4))).alloc (.cells (liveRow W1.heap.size va vb vc vd).toArray 44) = Wc) :
    NdsAt Wc.heap.size Wc (some ⟨W1.heap.size + 1 + 1, 0, none⟩) liveL ∧ Ext W1 Wc := by
  obtain ⟨Wa, hWa⟩ : ∃ Wa, Wa = W1.alloc (.cells #[.int .u8 120, .int .u8 121] 5 (2, 3)) := ⟨_, rfl⟩
  obtain ⟨Wb, hWb⟩ : ∃ Wb, Wb = Wa.alloc (.cells #[.int .u8 49, .int .u8 50, .int .u8 51] 5 (3, 4)) := ⟨_, rfl⟩
  rw [← hWa, ← hWb] at hWc
  have hza : Wa.heap.size = W1.heap.size + 1 := by rw [hWa]; simp
  have hzb : Wb.heap.size = W1.heap.size + 1 + 1 := by rw [hWb]; simp [hza]
  have hzc : Wc.heap.size = W1.heap.size + 1 + 1 + 1 := by rw [← hWc]; simp [hzb]
  have hE : Ext Wb Wc := by rw [← hWc]; exact Ext.alloc _ _
  have hEb : Ext Wa Wb := by rw [hWb]; exact Ext.alloc _ _
  have hEa : Ext W1 Wa := by rw [hWa]; exact Ext.alloc _ _
  have hE1 : Ext W1 Wc := hEa.trans (hEb.trans hE)
  have ga : Wc.heap[W1.heap.size]? = some (.cells #[.int .u8 120, .int .u8 121] 5 (2, 3)) := ((hEb.trans hE).block W1.heap.size (by omega)).trans (by rw [hWa]; exact heap_alloc_new W1 _)
  have gb : Wc.heap[W1.heap.size + 1]? = some (.cells #[.int .u8 49, .int .u8 50, .int .u8 51] 5 (3, 4)) := (hE.block (W1.heap.size + 1) (by omega)).trans (by rw [hWb, ← hza]; exact heap_alloc_new Wa _)
  have gc : Wc.heap[W1.heap.size + 1 + 1]? = some (.cells (liveRow W1.heap.size va vb vc vd).toArray 44 (0, 0)) := by rw [← hWc, ← hzb]; exact heap_alloc_new Wb _
  have cA : Cells Wc.heap.size Wc (some ⟨W1.heap.size, 0, none⟩) (liveA.data.map u8v) := fun j u hj => ⟨_, 0, rfl, by omega, by rw [Nat.zero_add, cell_of_row _ _ _ _ _ _ ga, ← Array.getElem?_toList]; exact hj⟩
  have cB : Cells Wc.heap.size Wc (some ⟨W1.heap.size + 1, 0, none⟩) (liveB.data.map u8v) := fun j u hj => ⟨_, 0, rfl, by omega, by rw [Nat.zero_add, cell_of_row _ _ _ _ _ _ gb, ← Array.getElem?_toList]; exact hj⟩
  obtain ⟨r0, r1, r2⟩ := row3_at (a := (ndC rootN (.slice va 0 vc) (.slice vb 1 vd)).toList) (b := (ndC liveA (.slice (some ⟨W1.heap.size, 0, none⟩) 2 2) (.slice none 0 0)).toList) (c := (ndC liveB (.slice (some ⟨W1.heap.size + 1, 0, none⟩) 3 3) (.slice none 0 0)).toList) rfl rfl
  refine ⟨fun i n hi => ?_, hE1⟩
  match i, hi with
  | 0, hi =>
    obtain rfl : rootN = n := Option.some.inj hi
    refine ⟨_, 0, .agg (ndC rootN (.slice va 0 vc) (.slice vb 1 vd)), rfl, by omega, ⟨va, vc, vb, vd, rfl, h1.ext hE1, h2.ext hE1⟩, fun j u hj => ?_⟩
    rw [cell_of_row _ _ _ _ _ _ gc, List.getElem?_toArray]
    exact r0 j u (by rw [Array.getElem?_toList]; exact hj)
  | 1, hi =>
    obtain rfl : liveA = n := Option.some.inj hi
    refine ⟨_, 0, .agg (ndC liveA (.slice (some ⟨W1.heap.size, 0, none⟩) 2 2) (.slice none 0 0)), rfl, by omega, ⟨_, 2, none, 0, rfl, cA, Cells.nil _ _ _⟩, fun j u hj => ?_⟩
    rw [cell_of_row _ _ _ _ _ _ gc, List.getElem?_toArray]
    exact r1 j u (by rw [Array.getElem?_toList]; exact hj)
  | 2, hi =>
    obtain rfl : liveB = n := Option.some.inj hi
    refine ⟨_, 0, .agg (ndC liveB (.slice (some ⟨W1.heap.size + 1, 0, none⟩) 3 3) (.slice none 0 0)), rfl, by omega, ⟨_, 3, none, 0, rfl, cB, Cells.nil _ _ _⟩, fun j u hj => ?_⟩
    rw [cell_of_row _ _ _ _ _ _ gc, List.getElem?_toArray]
    exact r2 j u (by rw [Array.getElem?_toList]; exact hj)
  | i + 3, hi => simp [liveL] at hi

theorem live10_any (w : World) (hT : Tabs w) : Calls Tryz.prog 11 #[] w fun e w' => e = .returned (.bool true) ∧ Ext w w' := by
  have hsz := hT.size
  have C1 := Lib.hid (rroot_any w)
  have HT := Lib.hid hT
  clear hT
  go_enter Tryz.func11, Tryz.ntmps11
  go_wp2_with fail
  refine C1.out.mono ?_
  rintro e W1 ⟨v, rfl, hN, hE1⟩
  obtain ⟨va, vc, vb, vd, rfl, h1, h2⟩ := hN
  have hE1 : Ext w W1 := hE1
  have hcv1 := Lib.run_convert_bytes_const (P := Tryz.prog) W1 41 5 #[.int .u8 120, .int .u8 121] 2 2 Tryz.underlying41 Tryz.underlying5
  have hcv2 := Lib.run_convert_bytes_const (P := Tryz.prog) (W1.alloc (.cells #[.int .u8 120, .int .u8 121] 5 (2, 3))) 41 5 #[.int .u8 49, .int .u8 50, .int .u8 51] 3 3 Tryz.underlying41 Tryz.underlying5
  rw [World.size_alloc] at hcv2
  simp only [List.size_toArray, List.length_cons, List.length_nil] at hcv1 hcv2
  simp only [Nat.zero_add, Nat.reduceAdd] at hcv1 hcv2
  obtain ⟨Wc, hWc⟩ : ∃ Wc, ((W1.alloc (.cells #[.int .u8 120, .int .u8 121] 5 (2, 3))).alloc (.cells #[.int .u8 49, .int .u8 50, .int .u8 51] 5 (3, 4))).alloc (.cells (liveRow W1.heap.size va vb vc vd).toArray 44) = Wc := ⟨_, rfl⟩
  obtain ⟨hnd, hEc⟩ := live_nds W1 va vb vc vd (h1.cells fun b hb => hb.2) (h2.cells fun b hb => hb.2) Wc hWc
  have hEw := hE1.trans hEc
  have C2 := from_any liveL (some ⟨W1.heap.size + 1 + 1, 0, none⟩) 3 Wc (HT.out.below hEw hsz) hnd (fun n hn => (right_fit (live_right n hn)).1) (by decide)
  have C2 : Calls Tryz.prog 51 #[.slice (some ⟨W1.heap.size + 1 + 1, 0, none⟩) 3 3] Wc (FromOut liveL Wc) := C2
  have C2 := Lib.hid C2
  have HWC := Lib.hid (show ((W1.alloc (.cells #[.int .u8 120, .int .u8 121] 5 (2, 3))).alloc (.cells #[.int .u8 49, .int .u8 50, .int .u8 51] 5 (3, 4))).alloc (.cells #[.string ⟨#[47]⟩, .slice va 0 vc, .slice vb 1 vd, .int .i64 0, .int .i64 0, .int .i64 0, .int .i64 0, .int .i64 0, .int .i64 0, .int .i64 0, .int .i64 0, .int .i32 0, .int .i32 0, .int .i32 0, .bool false, .int .i64 0, .int .i64 0,
    .string ⟨#[47, 97]⟩, .slice (some ⟨W1.heap.size, 0, none⟩) 2 2, .slice none 0 0, .int .i64 0, .int .i64 0, .int .i64 0, .int .i64 0, .int .i64 0, .int .i64 0, .int .i64 0, .int .i64 0, .int .i32 0, .int .i32 0, .int .i32 0, .bool true, .int .i64 3, .int .i64 10,
    .string ⟨#[47, 97, 47, 98]⟩, .slice (some ⟨W1.heap.size + 1, 0, none⟩) 3 3, .slice none 0 0, .int .i64 0, .int .i64 0, .int .i64 0, .int .i64 0, .int .i64 0, .int .i64 0, .int .i64 0, .int .i64 0, .int .i32 0, .int .i32 0, .int .i32 0, .bool false, .int .i64 0, .int .i64 0] 44) = Wc from hWc)
  have HEw := Lib.hid hEw
  unfold ndC rootN newN rootP
  clear C1 hE1 hEc hnd hWc h1 h2 hEw
  go_wp2_with fail
  rw [HWC.out]
  refine C2.out.mono ?_
  intro e W2 hout
  unfold FromOut at hout
  rw [live_from] at hout
  obtain ⟨bt, rfl, hT2, hE2⟩ := hout
  have hE2 : Ext Wc W2 := hE2
  have hok := hT2.ok
  have CN := Lib.hid (no10_any 0 W2)
  have hG := GetsM.of_tree hT2
  have hWe := WeighsM.of_tree hT2 live_clo (by decide)
  have CE6 := Lib.hid (show Calls Tryz.prog 60 #[.pointer (some ⟨bt, 0, none⟩), .string ⟨#[47, 97, 47, 99]⟩, .int .i64 1, .int .i64 6] W2 (fun e w' => e = .returned (.tuple #[.string ⟨#[47, 97]⟩, .bool true]) ∧ Ext W2 w') by
    have := qExceeds_any _ ⟨_, rfl⟩ liveM W2 hok hG hWe ⟨#[47, 97, 47, 99]⟩ (by decide) 1 6
    unfold ExcOut at this
    rw [live_first] at this
    exact this)
  have CE5 := Lib.hid fun W (h : Ext W2 W) => (show Calls Tryz.prog 60 #[.pointer (some ⟨bt, 0, none⟩), .string ⟨#[47, 97, 47, 99]⟩, .int .i64 1, .int .i64 5] W (fun e w' => e = .returned (.tuple #[.string ⟨#[]⟩, .bool false]) ∧ Ext W w') by
    have := qExceeds_any _ ⟨_, rfl⟩ liveM W hok (fun W' t h1 h2 => hG W' t (h.trans h1) h2) (fun W' n h1 h2 => hWe W' n (h.trans h1) h2) ⟨#[47, 97, 47, 99]⟩ (by decide) 1 5
    unfold ExcOut at this
    rw [live_none] at this
    exact this)
  have CB := Lib.hid fun W (h : Ext W2 W) => qbegin_any _ ⟨_, rfl⟩ liveM W hok (fun ga hga => AllsM.of_tree (hT2.ext h) (by decide) ga hga) (fun W' n h1 h2 => hWe W' n (h.trans h1) h2) (by decide)
  have CO := Lib.hid fun W (h : Ext W2 W) => (qOver_any _ liveM W hok (fun W' t h1 h2 => hG W' t (h.trans h1) h2) ⟨#[47, 97, 47, 98, 47, 99]⟩ (by decide)).mono fun e w' h => texts_out h
  have HE2 := Lib.hid (HEw.out.trans hE2)
  clear C2 hE2 HWC hcv1 hcv2 hG hWe hT2 hok
  go_wp2_with fail
  refine CN.out.mono ?_
  rintro e W3 ⟨rfl, rfl⟩
  clear CN
  go_wp2_with fail
  refine CE6.out.mono ?_
  rintro e W4 ⟨rfl, hE4⟩
  have HE4 := Lib.hid hE4
  have CE5 := Lib.hid (CE5.out W4 hE4)
  clear CE6 hE4
  go_wp2_with fail
  refine CE5.out.mono ?_
  rintro e W5 ⟨rfl, hE5⟩
  have HE5 := Lib.hid (HE4.out.trans hE5)
  have CB := Lib.hid (CB.out W5 (HE4.out.trans hE5))
  clear CE5 hE5
  go_wp2_with fail
  refine CB.out.mono ?_
  rintro e W6 ⟨bb, bm, rfl, hbk, _, _, hE6⟩
  have hE6 : Ext W5 W6 := hE6
  have CU := qused_any W6 bb bm (usedL liveM) hbk (usedP_pairs _ _) ⟨#[47, 97]⟩ (by unfold maxLen; decide)
  unfold usedAt at CU
  rw [live_used] at CU
  have CU := Lib.hid CU
  have HE6 := Lib.hid (HE5.out.trans hE6)
  clear CB hE6 hbk
  go_wp2_with fail
  refine CU.out.mono ?_
  rintro e W7 ⟨rfl, hE7⟩
  have hE7 : Ext W6 W7 := hE7
  obtain ⟨X7, hX7⟩ : ∃ X7, X7 = W7.alloc (.cells #[.int .i64 2, .int .i64 5] 107) := ⟨_, rfl⟩
  have HSET := Lib.hid ((setRow_alloc W7 zeroUsed #[.int .i64 2, .int .i64 5] 107).trans hX7.symm)
  have HNEW := Lib.hid (heap_alloc_new W7 (.cells zeroUsed 107))
  have hEX : Ext W7 X7 := by rw [hX7]; exact Ext.alloc _ _
  have hb7 : X7.heap[W7.heap.size]? = some (.cells #[.int .i64 2, .int .i64 5] 107 (0, 0)) := by rw [hX7]; exact heap_alloc_new W7 _
  have u0 : X7.cell? ⟨W7.heap.size, 0, none⟩ = some (.int .i64 2) := cell_of_row _ _ _ _ _ _ hb7
  have u1 : X7.cell? ⟨W7.heap.size, 1, none⟩ = some (.int .i64 5) := cell_of_row _ _ _ _ _ _ hb7
  have hEa := HE6.out.trans (hE7.trans hEX)
  have CO := Lib.hid (CO.out X7 hEa)
  have HE7 := Lib.hid hEa
  unfold zeroUsed at HSET HNEW
  clear CU hE7 hX7 hEX hb7 hEa
  go_wp2_with (refine wpList_store_row rfl 107 (.tmp 9) (.tmp 47) rfl W7.heap.size _ rfl rfl 107 _ HNEW.out sizeUsed rfl (by simp [Value.oneCell']) ?_; rw [HSET.out])
  refine CO.out.mono ?_
  rw [live_over]
  rintro e W8 ⟨oa, oc, rfl, hst, hE8⟩
  have hE8 : Ext X7 W8 := hE8
  have hEal : Ext W8 (W8.alloc (.cells #[.string ⟨#[47, 97]⟩] 9)) := Ext.alloc _ _
  have hs1 : StrsAt (W8.alloc (.cells #[.string ⟨#[47, 97]⟩] 9)).heap.size (W8.alloc (.cells #[.string ⟨#[47, 97]⟩] 9)) (some ⟨W8.heap.size, 0, none⟩) [liveA.path] := fun i s hi => by
    refine ⟨_, 0, rfl, by simp, ?_⟩
    rw [Nat.zero_add, cell_of_row _ _ _ _ _ _ (heap_alloc_new W8 _)]
    match i, hi with
    | 0, hi => cases hi; rfl
    | i + 1, hi => simp at hi
  have CT := sameTexts_self [liveA.path] oa (some ⟨W8.heap.size, 0, none⟩) oc 1 (W8.alloc (.cells #[.string ⟨#[47, 97]⟩] 9)) (hst.ext hEal) hs1 (by decide)
  have CT : Calls Tryz.prog 62 #[.slice oa 1 oc, .slice (some ⟨W8.heap.size, 0, none⟩) 1 1] (W8.alloc (.cells #[.string ⟨#[47, 97]⟩] 9)) fun e w' => e = .returned (.bool true) ∧ Ext (W8.alloc (.cells #[.string ⟨#[47, 97]⟩] 9)) w' := CT
  have CT := Lib.hid CT
  have HE8 := Lib.hid ((HE7.out.trans hE8).trans hEal)
  clear CO hE8 hEal hs1 hst u0 u1 HSET HNEW
  simp only [List.map_cons, List.map_nil, List.length_cons, List.length_nil, Nat.zero_add]
  go_wp2_with fail
  refine CT.out.mono ?_
  rintro e W9 ⟨rfl, hE9⟩
  have HFIN : Hid (Ext w W9) := HE2.out.trans (HE8.out.trans hE9)
  clear CT hE9
  go_wp2
  go_ret
  exact ⟨rfl, HFIN.out⟩
end Go.Proofs.YthinpbdbhijbgaaGreatDoor
namespace Go.Proofs.YthinpbdbhijbgaaGreatDoor
open Go.RowKit Go.Sort
set_option maxHeartbeats 8000000
set_option maxRecDepth 100000

/-- The path of the first one. -/
def excP (o : Option Nd) : ByteArray := match o with | some n => n.path | none => ⟨#[]⟩
theorem exc_out {P : Nd → Bool} {L : List Nd} {w w' : World} {e : Ending} (h : ExcOut P L w e w') : e = .returned (.tuple #[.string (excP (L.find? P)), .bool (L.find? P).isSome]) ∧ Ext w w' := by
  obtain ⟨rfl, hE⟩ := h
  refine ⟨?_, hE⟩
  cases L.find? P <;> rfl

end Go.Proofs.YthinpbdbhijbgaaGreatDoor
namespace Go.Proofs.YthinpbdbhijbgaaGreatDoor
open Go.RowKit Go.Sort
set_option maxHeartbeats 8000000
set_option maxRecDepth 100000

theorem find_congr {P Q : Nd → Bool} : ∀ {L : List Nd}, (∀ x ∈ L, P x = Q x) → L.find? P = L.find? Q
  | [], _ => rfl
  | x :: L, h => by
    rw [List.find?_cons, List.find?_cons, h x (List.mem_cons_self ..), find_congr fun y hy => h y (List.mem_cons_of_mem _ hy)]
theorem exc_congr {P Q : Nd → Bool} {L : List Nd} (h : ∀ x ∈ L, P x = Q x) {w w' : World} {e : Ending} (h2 : ExcOut P L w e w') : ExcOut Q L w e w' := by
  unfold ExcOut at h2 ⊢
  rw [← find_congr h]; exact h2
theorem AllsM.nil (w : World) (ga : Nat) : AllsM (.pointer none) [] w ga := fun W _ _ => by
  refine (tall_nil W).mono ?_
  rintro e W1 ⟨bw, btb, rfl, hcw, hE1⟩
  exact ⟨bw, btb, rfl, told_tells_nil (fun _ k => k ≠ ga) W1 bw btb 152 #[.pointer none] #[] hcw (enters_of Tryz.func152 (by kernel_rfl) rfl)
    (fun W _ => (show Calls Tryz.prog 152 #[.pointer none] W _ from (sorted_nil W).mono fun e w' h => by obtain ⟨rfl, rfl⟩ := h; exact ⟨rfl, Ext.refl _⟩)), hE1⟩

/-- What laid hands back, in all that layer 10 asks of it. -/
structure Both (pv rv : Value) (M : List (Key × Nd)) (w : World) : Prop where
  ptr : ∃ po, pv = .pointer po
  ok : MOk M
  gets : GetsM pv M w
  weighs : WeighsM pv M w
  alls : ∀ ga, w.heap.size ≤ ga → AllsM pv M w ga
  over : ∀ W s, Ext w W → s.size ≤ 9223372036854775800 → Calls Tryz.prog 110 #[rv, .string s] W (TextsOut ((overL M s).map (·.path)) W)
  exc : ∀ W s dn db, Ext w W → s.size ≤ 9223372036854775800 → Calls Tryz.prog 44 #[rv, .string s, .int .i64 dn, .int .i64 db] W (ExcOut (rpassB M dn db) (overL M s) W)
  beg : ∀ W, Ext w W → Calls Tryz.prog 105 #[rv] W (RBegOut M W)
theorem Both.ext {pv rv : Value} {M : List (Key × Nd)} {w w' : World} (h : Both pv rv M w) (hE : Ext w w') : Both pv rv M w' :=
  ⟨h.ptr, h.ok, fun W t h1 h2 => h.gets W t (hE.trans h1) h2, fun W n h1 h2 => h.weighs W n (hE.trans h1) h2, fun ga hga W h1 h2 => h.alls ga (Nat.le_trans hE.size hga) W (hE.trans h1) h2, fun W s h1 h2 => h.over W s (hE.trans h1) h2, fun W s dn db h1 h2 => h.exc W s dn db (hE.trans h1) h2, fun W h1 => h.beg W (hE.trans h1)⟩

theorem rpass_over {M : List (Key × Nd)} (hM : MOk M) (hl : M.length * 168 ≤ 140737488355328) (hir : ∀ x ∈ M, Ir x.2) {dn db : Int} (h1 : dn ≤ 9223372036854775807) (h2 : db ≤ 9223372036854775807) {s : ByteArray} : ∀ n ∈ overL M s, rpassB M dn db n = overB M dn db n := fun n hn => by
  have hg := (overL_there hM hn).1
  have hi := hir _ (mget_some_mem hg)
  have hc := wf_i64 (hi.1 n.count (by simp))
  have hb := wf_i64 (hi.1 n.bytes (by simp))
  have hu := undK_length_le M n.path
  have hk := bytesK_le hM (undK M n.path)
  unfold rpassB overB
  rw [above_pass (by omega) (by omega) h1 hc.1 hc.2, above_pass (by omega) (by omega) h2 hb.1 hb.2]

end Go.Proofs.YthinpbdbhijbgaaGreatDoor
namespace Go.Proofs.YthinpbdbhijbgaaGreatDoor
open Go.RowKit
theorem fromN_mem {L : List Nd} {M : List (Key × Nd)} (hfr : fromN L = .ok M) : ∀ x ∈ M, x.2 ∈ L := by
  intro x hx
  unfold fromN at hfr
  cases hf : fromL L 0 [] with
  | error e => rw [hf] at hfr; cases hfr
  | ok M1 =>
    rw [hf] at hfr
    simp only at hfr
    split at hfr
    · cases hfr
    cases hp : parL M1 L 0 with
    | error e => rw [hp] at hfr; cases hfr
    | ok u =>
      rw [hp] at hfr
      simp only [Except.ok.injEq] at hfr
      subst hfr
      rcases fromL_mem L 0 [] M1 hf x hx with h | h
      · simp at h
      · exact h
end Go.Proofs.YthinpbdbhijbgaaGreatDoor
namespace Go.Proofs.YthinpbdbhijbgaaGreatDoor
open Go.RowKit Go.Sort
set_option maxHeartbeats 4000000
set_option maxRecDepth 100000

/-- Both trees in blocks apart, or none. -/
def LaidTwo (L : List Nd) (w : World) (e : Ending) (w' : World) : Prop :=
  match fromN L with
  | .error _ => e = .returned (.tuple #[.pointer none, .pointer none, .bool true]) ∧ Ext w w'
  | .ok M => ∃ bt br S R, e = .returned (.tuple #[.pointer (some ⟨bt, 0, none⟩), .pointer (some ⟨br, 0, none⟩), .bool true]) ∧ Two7 w.heap.size S R w' bt br L.length M ∧ Ext w w'

theorem laid10_two (L : List Nd) (a : Option Addr) (c : Nat) (w : World) (hT : Tabs w) (hL : NdsAt w.heap.size w a L) (hf : ∀ n ∈ L, Fit n ∧ Ir n) (hl : L.length * 168 ≤ 140737488355328) :
    Calls Tryz.prog 33 #[.slice a L.length c] w (LaidTwo L w) := by
  have hsz := hT.size
  have hff : ∀ n ∈ L, Fit n := fun n hn => (hf n hn).1
  have C0 := Lib.hid (own10_any L a c w hL hff hl)
  have HL := Lib.hid hL
  have HF := Lib.hid hff
  have HI := Lib.hid (show ∀ n ∈ L, Ir n from fun n hn => (hf n hn).2)
  have HT := Lib.hid hT
  clear hL hf hff hT
  go_enter Tryz.func33, Tryz.ntmps33
  go_wp2_with fail
  refine C0.out.mono ?_
  rintro e W0 ⟨v, rfl, hown, hE0⟩
  obtain ⟨oa, oc, rfl, hOL⟩ := hown.nds
  have hE0 : Ext w W0 := hE0
  have C1 := Lib.hid (from_any L oa oc W0 (HT.out.below hE0 hsz) hOL HF.out (by omega))
  have HE0 := Lib.hid hE0
  clear hown hOL hE0 C0
  go_wp2_with fail
  refine C1.out.mono ?_
  intro e W1 hout
  unfold FromOut at hout
  cases hfr : fromN L with
  | error x =>
    obtain ⟨i, x⟩ := x
    rw [hfr] at hout
    obtain ⟨rfl, hE1⟩ := hout
    have hE1 : Ext W0 W1 := hE1
    have hEw1 := HE0.out.trans hE1
    have C2 := Lib.hid (rfrom_s L a c W1 (HT.out.below hEw1 hsz) (HL.out.ext hEw1) HF.out hl)
    have HE1 := Lib.hid hEw1
    have CN := Lib.hid fun W => no10_any x W
    clear C1 hE1 hEw1
    go_wp2_with fail
    refine C2.out.mono ?_
    intro e W2 hout
    unfold RFromS at hout
    rw [hfr] at hout
    obtain ⟨rfl, hE2⟩ := hout
    have hx1 : (x != x) = false := by simp
    have hfin : LaidTwo L w (.returned (.tuple #[.pointer none, .pointer none, .bool true])) W2 := by
      unfold LaidTwo
      rw [hfr]
      exact ⟨rfl, HE1.out.trans hE2⟩
    have HFIN := Lib.hid hfin
    have CN2 := Lib.hid (CN.out W2)
    clear C2 hE2 hfr hfin CN
    go_wp2_with fail
    refine CN2.out.mono ?_
    rintro e W3 ⟨rfl, rfl⟩
    clear CN2
    go_wp2
    go_ret3
    exact HFIN.out
  | ok M =>
    rw [hfr] at hout
    obtain ⟨bt, rfl, hT1, hE1⟩ := hout
    have hE1 : Ext W0 W1 := hE1
    have hEw1 := HE0.out.trans hE1
    have C2 := Lib.hid (rfrom_s L a c W1 (HT.out.below hEw1 hsz) (HL.out.ext hEw1) HF.out hl)
    have HE1 := Lib.hid hEw1
    have HT1 := Lib.hid hT1
    have CN := Lib.hid fun W => no10_any 0 W
    have hz0 := HE0.out.size
    clear C1 hE1 hEw1 hT1
    go_wp2_with fail
    refine C2.out.mono ?_
    intro e W2 hout
    unfold RFromS at hout
    rw [hfr] at hout
    obtain ⟨rfl, hR, hE2⟩ := hout
    have hE2 : Ext W1 W2 := hE2
    have hz2 := hE2.size
    have hfin : LaidTwo L w (.returned (.tuple #[.pointer (some ⟨bt, 0, none⟩), .pointer (some ⟨W1.heap.size, 0, none⟩), .bool true])) W2 := by
      unfold LaidTwo
      rw [hfr]
      have hz01 := HE1.out.size
      have hb := hR.bound
      refine ⟨bt, W1.heap.size, _, _, rfl, ⟨HT1.out.keep (S' := fun k => W0.heap.size ≤ k ∧ k < W1.heap.size) (fun k hk => hE2.block k hk.2) (fun k hk => hk) (fun k hk => Nat.lt_of_lt_of_le hk.2 hz2) (Nat.le_refl _), hR, fun k hk => ⟨fun h => by have := hk.2; have := h.1; omega, fun e => by have := hk.2; omega⟩, fun k hk => ?_, hz01, ⟨fromN_clo HT1.out.ok hfr, fun x hx => HI.out _ (fromN_mem hfr x hx), HT1.out.len⟩⟩, HE1.out.trans hE2⟩
      rcases hk with hk | hk
      · have := hk.1; omega
      · have := hk.1; omega
    have HFIN := Lib.hid hfin
    have CN2 := Lib.hid (CN.out W2)
    clear C2 hE2 hfr hfin CN hR
    go_wp2_with fail
    refine CN2.out.mono ?_
    rintro e W3 ⟨rfl, rfl⟩
    clear CN2
    go_wp2
    go_ret3
    exact HFIN.out
end Go.Proofs.YthinpbdbhijbgaaGreatDoor
namespace Go.Proofs.YthinpbdbhijbgaaGreatDoor
open Go.RowKit
set_option maxHeartbeats 1000000

/-- A clone: its slices are made. -/
def ClnAt (n : Nd) (v : Value) (W : World) : Prop := ∃ va vc vb vd, v = .agg (ndC n (.slice va n.data.length vc) (.slice vb n.acl.length vd)) ∧ Cells W.heap.size W va (n.data.map u8v) ∧ Cells W.heap.size W vb (acCs n.acl)
theorem ClnAt.ext {n : Nd} {v : Value} {W W' : World} (h : ClnAt n v W) (hE : Ext W W') : ClnAt n v W' := by
  obtain ⟨va, vc, vb, vd, e, h1, h2⟩ := h
  exact ⟨va, vc, vb, vd, e, h1.ext hE, h2.ext hE⟩
/-- j0 clones, j1 turns the one tree, j2 the other. -/
def TnH (j0 j1 j2 : Nat) (n : Nd) (B : Nat) (S R : Nat → Prop) (w X : World) (bt br K : Nat) (M M' : List (Key × Nd)) (d : Nat → Bool) (vals : Nat → Value) (W : World) : Prop :=
  PG7 j1 j2 B S R w X bt br K M M' d W ∧ (d j0 = true → d j1 = false → ClnAt n (vals j0) W)
section
variable {j0 j1 j2 : Nat} {n : Nd} {B : Nat} {S R : Nat → Prop} {w X : World} {bt br K : Nat} {M M' : List (Key × Nd)} {d : Nat → Bool} {vals : Nat → Value} {W W' : World}
theorem done_other (d : Nat → Bool) {i k : Nat} (h : k ≠ i) : (d k || k == i) = d k := by
  have : (k == i) = false := by simpa using h
  rw [this, Bool.or_false]
theorem TnH.read {i : Nat} {v : Value} (h : TnH j0 j1 j2 n B S R w X bt br K M M' d vals W) (hE : Ext W W') (h0 : i ≠ j0) (h1 : i ≠ j1) (h2 : i ≠ j2) : TnH j0 j1 j2 n B S R w X bt br K M M' (fun k => d k || k == i) (updV vals i v) W' := by
  refine ⟨PG7.ext h1 h2 d _ W W' h.1 hE fun k hk => done_other d hk, fun e0 e1 => ?_⟩
  simp only [done_other d h0.symm, done_other d h1.symm] at e0 e1
  rw [updV_other _ _ h0.symm]
  exact (h.2 e0 e1).ext hE
theorem TnH.clone {v : Value} (h : TnH j0 j1 j2 n B S R w X bt br K M M' d vals W) (hE : Ext W W') (h1 : j0 ≠ j1) (h2 : j0 ≠ j2) (hv : ClnAt n v W') : TnH j0 j1 j2 n B S R w X bt br K M M' (fun k => d k || k == j0) (updV vals j0 v) W' :=
  ⟨PG7.ext h1 h2 d _ W W' h.1 hE fun k hk => done_other d hk, fun _ _ => by rw [updV_same]; exact hv⟩
theorem TnH.one {v : Value} (h2 : d j2 = false) (h12 : j1 ≠ j2) (hM : Mid7 S R X bt br (K + 1) M M' W') : TnH j0 j1 j2 n B S R w X bt br K M M' (fun k => d k || k == j1) (updV vals j1 v) W' := by
  refine ⟨?_, fun _ e1 => by simp at e1⟩
  unfold PG7
  rw [if_neg (by show ¬ (d j2 || j2 == j1) = true; rw [done_other d h12.symm, h2]; simp), if_pos (by simp)]
  exact hM
theorem TnH.two {v : Value} (h1 : d j1 = true) (h12 : j1 ≠ j2) (hA : Aft7 B S R w X bt br (K + 1) M' W' ∧ Chg (fun k => S k ∨ k = br) X W') : TnH j0 j1 j2 n B S R w X bt br K M M' (fun k => d k || k == j2) (updV vals j2 v) W' := by
  refine ⟨?_, fun _ e1 => by simp only [h1, Bool.true_or] at e1; cases e1⟩
  unfold PG7
  simp only [beq_self_eq_true, Bool.or_true, if_true]
  exact hA
end
end Go.Proofs.YthinpbdbhijbgaaGreatDoor
namespace Go.Proofs.YthinpbdbhijbgaaGreatDoor
open Go.RowKit
set_option maxHeartbeats 1000000

end Go.Proofs.YthinpbdbhijbgaaGreatDoor
namespace Go.Proofs.YthinpbdbhijbgaaGreatDoor
open Go.RowKit

theorem mget_mput_same {α : Type} {M : List (Key × α)} (hs : MSorted M) (k : Key) (v : α) : mget (mput M k v) k = some v := mget_of_mem (mput_sorted hs k v) (mem_mput.2 (.inl rfl))
theorem mget_mput_other {α : Type} {M : List (Key × α)} (hs : MSorted M) {k k' : Key} (v : α) (h : k' ≠ k) : mget (mput M k v) k' = mget M k' := by
  cases hg : mget M k' with
  | some u => exact mget_of_mem (mput_sorted hs k v) (mem_mput.2 (.inr ⟨mget_some_mem hg, h⟩))
  | none =>
    refine mget_none_of fun x hx e => ?_
    rcases mem_mput.1 hx with rfl | ⟨h1, _⟩
    · exact h e.symm
    · exact mget_none hg x h1 e
theorem mget_mdel_same {α : Type} (M : List (Key × α)) (k : Key) : mget (mdel M k) k = none := mget_none_of fun x hx => (mem_mdel.1 hx).2
theorem mget_mdel_other {α : Type} {M : List (Key × α)} (hs : MSorted M) {k k' : Key} (h : k' ≠ k) : mget (mdel M k) k' = mget M k' := by
  cases hg : mget M k' with
  | some u => exact mget_of_mem (mdel_sorted hs k) (mem_mdel.2 ⟨mget_some_mem hg, h⟩)
  | none => exact mget_none_of fun x hx => mget_none hg x (mem_mdel.1 hx).1
theorem mdel_back {α : Type} {M : List (Key × α)} (hs : MSorted M) {k : Key} {v : α} (hg : mget M k = some v) : M = mins (k, v) (mdel M k) := by
  have h : mput M k v = M := mem_ext_sorted (mput_sorted hs k v) hs fun x => by
    rw [mem_mput]
    constructor
    · rintro (rfl | ⟨h, _⟩)
      · exact mget_some_mem hg
      · exact h
    · intro hx
      by_cases e : x.1 = k
      · refine .inl ?_
        have h1 : mget M x.1 = some x.2 := mget_of_mem hs hx
        rw [e, hg] at h1
        exact Prod.ext e (Option.some.inj h1).symm
      · exact .inr ⟨hx, e⟩
  exact h.symm

theorem sum_mins (P : Key × Nd → Bool) (f : Key × Nd → Nat) (x : Key × Nd) : ∀ m : List (Key × Nd), (((mins x m).filter P).map f).sum = ((m.filter P).map f).sum + if P x = true then f x else 0
  | [] => by
    show (([x].filter P).map f).sum = _
    by_cases h : P x = true
    · simp [h]
    · simp [h]
  | y :: m => by
    show (((if bytesBefore x.1 y.1 = true then x :: y :: m else y :: mins x m).filter P).map f).sum = _
    by_cases hb : bytesBefore x.1 y.1 = true
    · rw [if_pos hb]
      by_cases h : P x = true
      · rw [List.filter_cons_of_pos h, if_pos h, List.map_cons, List.sum_cons]; omega
      · rw [List.filter_cons_of_neg h, if_neg h]; rfl
    · rw [if_neg hb]
      have ih := sum_mins P f x m
      by_cases h : P y = true
      · rw [List.filter_cons_of_pos h, List.filter_cons_of_pos h, List.map_cons, List.map_cons, List.sum_cons, List.sum_cons, ih]; omega
      · rw [List.filter_cons_of_neg h, List.filter_cons_of_neg h, ih]
end Go.Proofs.YthinpbdbhijbgaaGreatDoor
