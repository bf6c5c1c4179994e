/- The law TreeSums, walked: at lists of nodes that are no longer than 1048576. -/
import Derived.Test.YtamolbegmkngdaaDoorJTreeSums10
namespace Go.Proofs.YtamolbegmkngdaaDoor
open Go.RowKit Go.Sort
set_option maxHeartbeats 8000000
set_option maxRecDepth 100000

theorem sums_walk (L : List Nd) (a : Option Addr) (c : Nat) (w : World) (hT : Tabs w) (hL : NdsAt w.heap.size w a L) (hf : ∀ n ∈ L, Fit n) (hl : L.length ≤ 1048576) :
    Calls Tryd.prog 3 #[.slice a L.length c] w fun e w' => e = .returned (.bool true) ∧ Below w.heap.size w w' := by
  have hsz := hT.size
  have C1 := Lib.hid (alive_any w hT)
  have HL := Lib.hid hL
  have HF := Lib.hid hf
  have HT := Lib.hid hT
  clear hL hf hT
  go_enter Tryd.func3, Tryd.ntmps3
  go_wp2_with fail
  refine C1.out.mono ?_
  rintro e W1 ⟨rfl, hE1⟩
  have C2 := Lib.hid (from_any L a c W1 (HT.out.below hE1 hsz) (HL.out.ext hE1) HF.out (by omega))
  have HE1 := Lib.hid hE1
  have hz1 := hE1.size
  clear hE1 C1 HL HT
  go_wp2_with fail
  refine C2.out.mono ?_
  intro e W2 hout
  unfold FromOut at hout
  cases hfr : fromN L with
  | error x =>
    obtain ⟨i, x⟩ := x
    rw [hfr] at hout
    obtain ⟨rfl, hE2⟩ := hout
    have hx : x ≠ 0 := fromN_err hfr
    have hx1 : (x == 0) = false := by simpa using hx
    have hx2 : decide (x = 0) = false := by simpa using hx
    have HFIN := Lib.hid (HE1.out.trans hE2)
    clear C2 hE2 hfr
    go_wp2
    go_ret
    exact ⟨rfl, HFIN.out⟩
  | ok M =>
    rw [hfr] at hout
    obtain ⟨bt, rfl, hT2, hE2⟩ := hout
    have hok := hT2.ok
    have hML := hT2.len
    have hclo := fromN_clo hok hfr
    have hB2 : Below w.heap.size w W2 := HE1.out.trans hE2
    have hkl : ∀ k ∈ M.map (·.1), k.length ≤ maxLen := fun k hk => by
      obtain ⟨x, hx, rfl⟩ := List.mem_map.1 hk
      rw [hok.key x hx]
      unfold keyN
      rw [size_list]
      have := (vpath_facts (right_vpath (hok.right x hx))).2.1
      unfold maxLen; omega
    have C3 := lall_any _ W2 bt M _ hT2 L.length (by unfold maxLen; omega) (by omega) hkl
    rw [nodesOf_vals hok.sorted, List.take_of_length_le (by simp; omega)] at C3
    have HT2 := Lib.hid hT2
    have HB2 := Lib.hid hB2
    have HOK := Lib.hid hok
    have HCLO := Lib.hid hclo
    have C3 := Lib.hid C3
    clear hT2 hB2 hok hE2 hkl hfr C2 hclo
    go_wp2_with fail
    refine C3.out.mono ?_
    rintro e W4 ⟨v, vs, rfl, hvl, hrow, hvn, hE4⟩
    simp only [List.length_map] at hvl hrow
    obtain ⟨la, lc, rfl, hrows⟩ := rows_path hvl hrow hvn
    have hE4 : Ext W2 W4 := hE4
    have HT4 := Lib.hid (HT2.out.ext hE4)
    have HB4 := Lib.hid (HB2.out.trans (hE4.mono HB2.out.size))
    have HROWS := Lib.hid hrows
    have CNT := Lib.hid fun W (hE : Ext W4 W) => tcount_any _ W bt M _ (HT4.out.ext hE)
    have hM16 : M.length * 16 ≤ 140737488355328 := by omega
    have hM168 : M.length * 168 ≤ 140737488355328 := by omega
    have hMl : M.length ≤ 1048576 := by omega
    clear hrow hvn hrows C3 hE4 hvl
    go_wp2_with fail
    go_loopw [7] (fun i wr => ∃ k : Nat, k ≤ M.length ∧ i = .int .i64 k ∧ Ext W4 wr) (fun i _ => M.length - (intOf i).toNat)
    case atStart => exact ⟨0, Nat.zero_le _, rfl, Ext.refl _⟩
    case round =>
      obtain ⟨k, hkM, rfl, hE⟩ := hrel
      obtain ⟨wo, hwo⟩ : ∃ x, x = wr := ⟨_, rfl⟩
      subst hwo
      by_cases hk : k < M.length
      · have hxm := List.getElem_mem hk
        obtain ⟨b, off, dd, dl, rfl, hb, c0, c1⟩ := HROWS.out k M[k] hk (List.getElem?_eq_getElem hk)
        have hTo := HT4.out.ext hE
        generalize M[k] = x at hxm c0 c1
        have CK := Lib.hid (kids_there _ wo bt M _ hTo hxm hM16)
        have HTO := Lib.hid hTo
        have HXM := Lib.hid hxm
        have HE := Lib.hid hE
        have HC0 := Lib.hid c0
        have HC1 := Lib.hid c1
        have c0o := (hE.cell (p := ⟨b, off + k * 17, none⟩) hb).trans c0
        clear hTo hE c0 c1 hxm HROWS
        go_wp2_with fail
        refine CK.out.mono ?_
        rintro e W5 ⟨ka, kc, rfl, hE5, hkids⟩
        have c05 := (hE5.cell (p := ⟨b, off + k * 17, none⟩) (Nat.lt_of_lt_of_le hb HE.out.size)).trans c0o
        have CS := Lib.hid (stat_there _ W5 bt M _ (HTO.out.ext hE5) HXM.out hMl)
        have HE5 := Lib.hid hE5
        have HKIDS := Lib.hid hkids
        clear CK c0o hE5 hkids
        go_wp2_with fail
        refine CS.out.mono ?_
        rintro e W6 ⟨s0, s1, s2, s3, s4, s5, s6, s7, s8, s10, rfl, hE6⟩
        obtain ⟨W7, hW7⟩ : ∃ W7, W7 = W6.alloc (.cells #[.int .i64 s0, .int .i64 s1, .int .i64 s2, .int .i64 s3, .int .i32 s4, .int .i32 s5, .int .i32 s6, .int .i64 s7, .int .i32 s8, .int .i32 (kidN M x.2.path).length, .int .i64 s10] 39) := ⟨_, rfl⟩
        have HSET := Lib.hid ((setRow_alloc W6 zeroStat #[.int .i64 s0, .int .i64 s1, .int .i64 s2, .int .i64 s3, .int .i32 s4, .int .i32 s5, .int .i32 s6, .int .i64 s7, .int .i32 s8, .int .i32 (kidN M x.2.path).length, .int .i64 s10] 39).trans hW7.symm)
        have HNew := Lib.hid (heap_alloc_new W6 (.cells zeroStat 39))
        have hE7 : Ext W6 W7 := by rw [hW7]; exact Ext.alloc _ _
        have hn7 : W7.heap[W6.heap.size]? = some (.cells #[.int .i64 s0, .int .i64 s1, .int .i64 s2, .int .i64 s3, .int .i32 s4, .int .i32 s5, .int .i32 s6, .int .i64 s7, .int .i32 s8, .int .i32 (kidN M x.2.path).length, .int .i64 s10] 39 (0, 0)) := by rw [hW7]; exact heap_alloc_new _ _
        have c9 : W7.cell? ⟨W6.heap.size, 9, none⟩ = some (.int .i32 (kidN M x.2.path).length) := cell_of_row _ _ _ _ _ _ hn7
        have hE57 := hE6.trans hE7
        have c07 := (hE57.cell (p := ⟨b, off + k * 17, none⟩) (Nat.lt_of_lt_of_le hb (Nat.le_trans HE.out.size HE5.out.size))).trans c05
        have CW := Lib.hid (weigh_there _ W7 bt M _ ((HTO.out.ext HE5.out).ext hE57) HCLO.out HXM.out hM168)
        have HC9 := Lib.hid c9
        have HE7 := Lib.hid (HE5.out.trans hE57)
        have HK7 := Lib.hid hE57
        have hz7 := (Array.getElem?_eq_some_iff.1 hn7).1
        unfold zeroStat at HSET HNew
        clear CS c05 hW7 hE6 hE7 hn7 c9 hE57
        go_wp2_with (first | (refine wpList_store_row rfl 39 (.tmp 10) (.tmp 62) rfl W6.heap.size _ rfl rfl 39 _ HNew.out sizeStat rfl (by simp [Value.oneCell']) ?_; rw [HSET.out]) | fail)
        refine CW.out.mono ?_
        rintro e W8 ⟨rfl, hE8⟩
        have hk1 : (kidN M x.2.path).length ≤ 1048576 := by have := kidN_length M x.2.path; have := kids_length M x.2.path; omega
        have c98 := (hE8.cell (p := ⟨W6.heap.size, 9, none⟩) hz7).trans HC9.out
        have hEo8 := HE7.out.trans hE8
        have c08 := (hE8.cell (p := ⟨b, off + k * 17, none⟩) (Nat.lt_of_lt_of_le hb (Nat.le_trans HE.out.size HE7.out.size))).trans c07
        have c18 := (hEo8.cell (p := ⟨b, off + k * 17 + 1, none⟩) (Nat.lt_of_lt_of_le hb HE.out.size)).trans ((HE.out.cell (p := ⟨b, off + k * 17 + 1, none⟩) hb).trans HC1.out)
        have HE8 := Lib.hid hEo8
        have HK8 := Lib.hid (HK7.out.trans hE8)
        clear CW c07 hE8 hEo8 HSET HNew
        go_wp2
        go_quiet (fail)
        go_wp2
        go_loopw [15, 16, 17] (fun cn bs i wr => ∃ j : Nat, j ≤ (kidN M x.2.path).length ∧ i = .int .i64 j ∧ cn = .int .i64 (partN M x.2.path 1 (fun _ => 1) j) ∧ bs = .int .i64 (partN M x.2.path x.2.data.length (fun n => n.data.length) j) ∧ Ext W8 wr) (fun _ _ i _ => (kidN M x.2.path).length - (intOf i).toNat)
        case atStart => exact ⟨0, Nat.zero_le _, rfl, by rw [partN_zero]; rfl, by rw [partN_zero], below_drewN (Below.refl _ _) _⟩
        case round =>
          obtain ⟨j, hjK, rfl, rfl, rfl, hE9⟩ := hrel
          have hz8 := HE8.out.size
          have hz5 := HE5.out.size
          have hzo := HE.out.size
          by_cases hj : j < (kidN M x.2.path).length
          · obtain ⟨hyM, hch⟩ := kid_get HOK.out hj
            obtain ⟨kb, ko, rfl, hkb, ck⟩ := HKIDS.out j _ (List.getElem?_eq_getElem hj)
            have hs1 := partN_succ (own := 1) (a := fun _ => 1) hj
            have hs2 := partN_succ (own := x.2.data.length) (a := fun n => n.data.length) hj
            have hb1 := Nat.le_trans (partN_le HOK.out HCLO.out HXM.out (fun _ => 1) (j + 1)) (wtN_le M x.2.path (fun _ => 1) 1 (fun _ _ => Nat.le_refl _))
            have hb2 := Nat.le_trans (partN_le HOK.out HCLO.out HXM.out (fun n => n.data.length) (j + 1)) (wtN_le M x.2.path (fun n => n.data.length) 1048575 (fun y hy => (right_fit (HOK.out.right y hy)).2.1))
            have hct := child_text HOK.out hyM HXM.out hch
            have hys := (vpath_facts (right_vpath (HOK.out.right _ hyM))).2.1
            have hxs := (vpath_facts (right_vpath (HOK.out.right _ HXM.out))).2.1
            have HWY := Lib.hid fun W (h : Ext W5 W) => weigh_there _ W bt M _ ((HTO.out.ext HE5.out).ext h) HCLO.out hyM hM168
            have hns : (⟨(nameK (kidN M x.2.path)[j].2).toArray⟩ : ByteArray).size ≤ 4096 := by
              have h1 := (path_split (right_vpath (HOK.out.right _ hyM)) (childOf_iff.1 hch).1).1
              have h3 := congrArg List.length h1
              rw [List.length_append, size_list] at h3
              rw [← size_list]
              show (nameB (kidN M x.2.path)[j].2.path).data.toList.toArray.toList.length ≤ 4096
              simp only [List.toList_toArray]
              omega
            generalize hyy : (kidN M x.2.path)[j] = y at *
            generalize (⟨(nameK y.2).toArray⟩ : ByteArray) = nm at *
            have c0w : wr.cell? ⟨b, off + k * 17, none⟩ = some (.string x.2.path) := (hE9.cell (p := ⟨b, off + k * 17, none⟩) (show b < W8.heap.size by omega)).trans c08
            have cnw : wr.cell? ⟨kb, ko + j, none⟩ = some (.string nm) := (hE9.cell (p := ⟨kb, ko + j, none⟩) (show kb < W8.heap.size by have := HK8.out.size; omega)).trans ((HK8.out.cell (p := ⟨kb, ko + j, none⟩) hkb).trans ck)
            have HOW := Lib.hid (HK8.out.trans hE9)
            have HE8b := Lib.hid hE9
            have HS1 := Lib.hid hs1
            have HS2 := Lib.hid hs2
            have g1 : ¬ (9223372036854775807 : Int) < (x.2.path.size : Int) + 1 := by omega
            have g2 : ¬ (9223372036854775807 : Int) < (x.2.path.size : Int) + 1 + (nm.size : Int) := by omega
            have g3 : ¬ (9223372036854775807 : Int) < 1 + (nm.size : Int) := by omega
            have n1 : partN M x.2.path 1 (fun _ => 1) j + wtN M y.2.path (fun _ => 1) ≤ 1048576 := by omega
            have n2 : partN M x.2.path x.2.data.length (fun n => n.data.length) j + wtN M y.2.path (fun n => n.data.length) ≤ 1048576 * 1048575 := by omega
            clear hs1 hs2 hb1 hb2 hE9 ck c08 c18 HKIDS hyy hch hyM hys hxs hns
            cases h47 : decide (x.2.path.data.toList = [47]) with
            | true =>
              have h47' : x.2.path.data.toList = [47] := by simpa using h47
              have e1 : (x.2.path.toList == [47]) = true := by rw [ByteArray.toList_eq]; simpa using h47'
              have e2 : x.2.path.toList = [47] := by simpa using e1
              have HQ := Lib.hid (hct.1 h47')
              clear hct h47 h47'
              go_wp2
              go_quiet (fail)
              go_wp2_with fail
              rw [HQ.out]
              refine (HWY.out _ (HOW.out.trans' ((below_drewN (Below.refl _ _) _)))).mono ?_
              rintro e W9 ⟨rfl, hE9⟩
              have HE9 := Lib.hid (HE8b.out.trans (show Ext wr W9 from (below_drewN (Below.refl wr.heap.size wr) _).trans hE9))
              clear hE9 c0w cnw
              go_wp2
              go_roundw
              case rel => exact ⟨j + 1, by omega, by go_num, by rw [HS1.out]; push_cast; go_num, by rw [HS2.out]; push_cast; go_num, HE9.out⟩
              case measure => simp [intOf]; omega
            | false =>
              have h47' : ¬ x.2.path.data.toList = [47] := by simpa using h47
              have e1 : (x.2.path.toList == [47]) = false := by rw [ByteArray.toList_eq]; simpa using h47'
              have e2 : ¬ x.2.path.toList = [47] := by simpa using e1
              have HQ := Lib.hid (hct.2 h47')
              clear hct h47 h47'
              go_wp2
              go_quiet (fail)
              go_wp2_with fail
              rw [HQ.out]
              refine (HWY.out _ (HOW.out.trans' ((below_drewN (Below.refl _ _) _)))).mono ?_
              rintro e W9 ⟨rfl, hE9⟩
              have HE9 := Lib.hid (HE8b.out.trans (show Ext wr W9 from (below_drewN (Below.refl wr.heap.size wr) _).trans hE9))
              clear hE9 c0w cnw
              go_wp2
              go_roundw
              case rel => exact ⟨j + 1, by omega, by go_num, by rw [HS1.out]; push_cast; go_num, by rw [HS2.out]; push_cast; go_num, HE9.out⟩
              case measure => simp [intOf]; omega
          · obtain rfl : j = (kidN M x.2.path).length := by omega
            have ha1 := partN_all HOK.out HCLO.out HXM.out (fun _ => 1)
            have ha2 := partN_all HOK.out HCLO.out HXM.out (fun n => n.data.length)
            have ha1' : partN M x.2.path 1 (fun _ => 1) (kidN M x.2.path).length = wtN M x.2.path (fun _ => 1) := ha1
            rw [ha1', ha2]
            have CB := Lib.hid (below_there _ wr bt M _ ((HTO.out.ext HE8.out).ext hE9) HCLO.out HXM.out hM168)
            have c0w : wr.cell? ⟨b, off + k * 17, none⟩ = some (.string x.2.path) := (hE9.cell (p := ⟨b, off + k * 17, none⟩) (show b < W8.heap.size by omega)).trans c08
            have HE9 := Lib.hid ((HE.out.trans HE8.out).trans hE9)
            clear ha1 ha1' ha2 hE9 c08 c18 HKIDS
            go_wp2_with fail
            refine CB.out.mono ?_
            rintro e W9 ⟨ra, rc, rfl, hE10⟩
            have HEE := Lib.hid (HE9.out.trans hE10)
            clear CB hE10 c0w
            go_wp2
            go_roundw
            case rel => exact ⟨k + 1, by omega, by go_num, HEE.out⟩
            case measure => simp [intOf]; omega
      · obtain rfl : k = M.length := by omega
        have CC := Lib.hid (CNT.out wo hE)
        have HFIN := Lib.hid (HB4.out.trans (hE.mono HB4.out.size))
        clear hE HROWS
        go_wp2_with fail
        refine CC.out.mono ?_
        rintro e W9 ⟨rfl, rfl⟩
        clear CC CNT
        go_wp2
        go_ret
        exact ⟨rfl, HFIN.out⟩
end Go.Proofs.YtamolbegmkngdaaDoor
