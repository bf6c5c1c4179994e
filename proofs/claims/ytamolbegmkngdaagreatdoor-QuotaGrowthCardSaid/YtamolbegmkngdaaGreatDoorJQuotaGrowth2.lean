/- The law QuotaGrowth, walked. -/
import Derived.Test.YtamolbegmkngdaaGreatDoorJQuotaGrowth1
namespace Go.Proofs.YtamolbegmkngdaaGreatDoor
open Go.RowKit Go.Sort
set_option maxHeartbeats 8000000
set_option maxRecDepth 100000

theorem growth_walk (L : List Nd) (a : Option Addr) (c : Nat) (G : List Cg) (ga : Option Addr) (gc : Nat) (w : World) (hT : Tabs w) (hL : NdsAt w.heap.size w a L) (hf : ∀ n ∈ L, Fit n ∧ Ir n) (hl : L.length * 168 ≤ 140737488355328)
    (hG : CgsAt w.heap.size w ga G) (hgf : ∀ c ∈ G, Fit c.n ∧ Ir c.n) (hgl : G.length * 184 ≤ 140737488355328) :
    Calls Tryz.prog 8 #[.slice a L.length c, .slice ga G.length gc] w fun e w' => e = .returned (.bool true) ∧ Below w.heap.size w w' := by
  have hsz := hT.size
  have C1 := Lib.hid (laid10_any L a c w hT hL (fun n hn => (hf n hn).1) hl)
  have HT := Lib.hid hT
  have HF := Lib.hid hf
  have HG := Lib.hid hG
  have HGF := Lib.hid hgf
  clear hL hf hT hG hgf
  go_enter Tryz.func8, Tryz.ntmps8
  go_wp2_with fail
  refine C1.out.mono ?_
  intro e W1 hout
  unfold LaidOut at hout
  cases hfr : fromN L with
  | error x =>
    rw [hfr] at hout
    obtain ⟨rfl, hE1⟩ := hout
    have hE1 : Ext w W1 := hE1
    have C2 := Lib.hid (live10_any W1 (HT.out.below hE1 hsz))
    have HE1 := Lib.hid hE1
    clear C1 hE1 hfr
    go_wp2_with fail
    refine C2.out.mono ?_
    rintro e W2 ⟨rfl, hE2⟩
    have HFIN : Hid (Ext w W2) := HE1.out.trans hE2
    clear C2 hE2
    go_wp2
    go_ret
    exact ⟨rfl, HFIN.out⟩
  | ok M0 =>
    rw [hfr] at hout
    obtain ⟨bt, br, rfl, hT0, _, hbr, hE1⟩ := hout
    have hE1 : Ext w W1 := hE1
    have C2 := Lib.hid (live10_any W1 (HT.out.below hE1 hsz))
    have hg1 : GAt w.heap.size w W1 bt L.length M0 := ⟨hT0.keep (fun _ _ => rfl) (fun k hk => ⟨hk.1, hk.2.1⟩) (fun k hk => hk.2) (Nat.le_refl _), ⟨fromN_clo hT0.ok hfr, fun x hx => (HF.out _ (fromN_mem hfr x hx)).2, hT0.len⟩, hE1⟩
    have HG1 := Lib.hid hg1
    have hz1 := hE1.size
    clear C1 hE1 hfr hT0 hg1
    go_wp2_with fail
    refine C2.out.mono ?_
    rintro e W2 ⟨rfl, hE2⟩
    have hz2 := hE2.size
    have HG2 : Hid (GAt w.heap.size w W2 bt L.length M0) := HG1.out.ext hE2 hz1
    clear C2 hE2 HG1
    go_wp2
    go_loopw [8] (fun i wr => ∃ (k : Nat) (M : List (Key × Nd)), k ≤ G.length ∧ i = .int .i64 k ∧ Hid (GAt w.heap.size w wr bt (L.length + k) M)) (fun i _ => G.length - (intOf i).toNat)
    case atStart => exact ⟨0, M0, Nat.zero_le _, rfl, HG2.out⟩
    case round =>
      obtain ⟨k, M, hk, rfl, HR⟩ := hrel
      have hwr := HR.out.bel.size
      by_cases hlt : k < G.length
      · obtain ⟨b, off, da, dc, aa, ac, rfl, hb, hD, hA, hc⟩ := HG.out k G[k] (List.getElem?_eq_getElem hlt)
        obtain ⟨hfc, hic⟩ := HGF.out G[k] (List.getElem_mem hlt)
        generalize G[k] = g at *
        obtain ⟨kd, n, fl⟩ := g
        simp only at hD hA hc hfc hic
        have hcr : ∀ j u, (chC kd n fl (.slice da n.data.length dc) (.slice aa n.acl.length ac))[j]? = some u → wr.cell? ((⟨b, off + k * 19, none⟩ : Addr).add j) = some u := fun j u hj => by
          rw [addr_add, HR.out.bel.cell (p := ⟨b, off + k * 19 + j, none⟩) hb]; exact hc j u hj
        obtain ⟨X1, hX1⟩ : ∃ X1, X1 = wr.alloc (.cells (chC kd n fl (.slice da n.data.length dc) (.slice aa n.acl.length ac)) 73) := ⟨_, rfl⟩
        have HSET1 := Lib.hid ((setRow_alloc wr zeroCh (chC kd n fl (.slice da n.data.length dc) (.slice aa n.acl.length ac)) 73).trans hX1.symm)
        have HNEW1 := Lib.hid (heap_alloc_new wr (.cells zeroCh 73))
        have hE1 : Ext wr X1 := by rw [hX1]; exact Ext.alloc _ _
        have hb1 : X1.heap[wr.heap.size]? = some (.cells (chC kd n fl (.slice da n.data.length dc) (.slice aa n.acl.length ac)) 73 (0, 0)) := by rw [hX1]; exact heap_alloc_new wr _
        have p1 : X1.cell? ⟨wr.heap.size, 1, none⟩ = some (.string n.path) := cell_of_row _ _ _ _ _ _ hb1
        have hzx1 : X1.heap.size = wr.heap.size + 1 := by rw [hX1]; simp
        have CG := Lib.hid (tget_any _ X1 bt M _ (HR.out.tree.ext hE1) n.path (by have := hfc.path; unfold maxLen; omega))
        have HC := Lib.hid hcr
        have HB1 := Lib.hid hb1
        have HE1 := Lib.hid hE1
        have HFC := Lib.hid hfc
        have HIC := Lib.hid hic
        have HD := Lib.hid hD
        have HA := Lib.hid hA
        unfold chC at HC HSET1
        unfold zeroCh at HSET1 HNEW1
        have hdl := hfc.data
        clear hcr hc hb1 hX1 hE1 hfc hic hD hA HG HGF
        go_wp2_with (first | (refine wpList_load_at rfl 73 (.tmp 42) rfl _ rfl _ _ HC.out Tryz.underlying73 rfl sizeCh ?_) | (refine wpList_store_row rfl 73 (.tmp 9) (.tmp 43) rfl wr.heap.size _ rfl rfl 73 _ HNEW1.out sizeCh rfl (cells_ch kd n fl da aa _ _ dc ac) ?_; rw [HSET1.out]))
        refine CG.out.mono ?_
        rintro e X2 ⟨v3, rfl, hv3, hE2⟩
        obtain ⟨d1, e1, a1, f1, X3, e0, hset3, hbx3, hEX3, _, _⟩ := box_node hv3 fun b hb => hb.2
        subst e0
        have hE2 : Ext X1 X2 := hE2
        have hzx2 := hE2.size
        have hyd := data_le HR.out.tree.ok n.path.data.toList
        generalize hy : (mget M n.path.data.toList).getD zeroN = y at *
        have hE3 : Ext wr X3 := HE1.out.trans (hE2.trans hEX3)
        have hb9 : X3.heap[wr.heap.size]? = some (.cells (chC kd n fl (.slice da n.data.length dc) (.slice aa n.acl.length ac)) 73 (0, 0)) := ((hE2.trans hEX3).block wr.heap.size (by omega)).trans HB1.out
        have k0 : X3.cell? ⟨wr.heap.size, 0, none⟩ = some (.int .i64 kd) := cell_of_row _ _ _ _ _ _ hb9
        have k1 : X3.cell? ⟨wr.heap.size, 1, none⟩ = some (.string n.path) := cell_of_row _ _ _ _ _ _ hb9
        have k2 : X3.cell? ⟨wr.heap.size, 2, none⟩ = some (.slice da n.data.length dc) := cell_of_row _ _ _ _ _ _ hb9
        have y1 : X3.cell? ⟨X2.heap.size, 1, none⟩ = some (.slice d1 y.data.length e1) := cell_of_row _ _ _ _ _ _ hbx3
        have HB9 := Lib.hid hb9
        have HB10 := Lib.hid hbx3
        have HE3 := Lib.hid hE3
        have HSET3 := Lib.hid hset3
        have HNEW3 := Lib.hid (heap_alloc_new X2 (.cells zeroNd 47))
        have HR3 : Hid (GAt w.heap.size w X3 bt (L.length + k) M) := HR.out.ext hE3 hwr
        have HCON : Hid (GAt w.heap.size w X3 bt (L.length + (k + 1)) M) := HR3.out.more (by omega)
        have b1 : -9223372036854775808 ≤ (n.data.length : Int) - (y.data.length : Int) := by omega
        have b2 : (n.data.length : Int) - (y.data.length : Int) < 9223372036854775808 := by omega
        have hKK : L.length + k ≤ 4398046511104 := by omega
        have hKL : L.length + (k + 1) ≤ 4398046511104 := by omega
        have hne : wr.heap.size ≠ X2.heap.size := by omega
        unfold ndC at HSET3 ⊢
        unfold zeroNd at HSET3 HNEW3
        clear CG hset3 hbx3 hEX3 hE2 hE3 hb9 HB1 HE1 HC HSET1 HNEW1 hv3 p1
        by_cases q1 : kd = 1
        · subst q1
          cases hg : mget M n.path.data.toList with
          | none =>
            obtain ⟨X4, hX4⟩ : ∃ X4, X4 = X3.setRow wr.heap.size (chC 1 (quoted n false 0 0) fl (.slice da n.data.length dc) (.slice aa n.acl.length ac)) := ⟨_, rfl⟩
            have hE4 : Ext wr X4 := by rw [hX4]; exact HE3.out.trans' ⟨rfl, rfl, rfl, by simp [World.setRow], fun k hk => setRow_other _ _ _ _ (by omega)⟩
            have hb4 : X4.heap[wr.heap.size]? = some (.cells (chC 1 (quoted n false 0 0) fl (.slice da n.data.length dc) (.slice aa n.acl.length ac)) 73 (0, 0)) := by rw [hX4]; exact setRow_heap X3 wr.heap.size _ _ 73 (0, 0) HB9.out
            have HSET4 := Lib.hid hX4.symm
            have q0 : X4.cell? ⟨wr.heap.size, 0, none⟩ = some (.int .i64 1) := cell_of_row _ _ _ _ _ _ hb4
            have q1 : X4.cell? ⟨wr.heap.size, 1, none⟩ = some (.string n.path) := cell_of_row _ _ _ _ _ _ hb4
            have HR4 : Hid (GAt w.heap.size w X4 bt (L.length + k) M) := HR.out.ext hE4 hwr
            have hwz4 := Nat.le_trans hwr hE4.size
            have CE := Lib.hid (gexc HR4.out hKK n.path HFC.out.path 1 ((n.data.length : Int) - (y.data.length : Int)))
            have HB4 := Lib.hid hb4
            have HE4 := Lib.hid hE4
            have himp : firstO M n.path 1 ((n.data.length : Int) - (y.data.length : Int)) = none → ∀ q ∈ (overL M n.path).map (·.path), passedB (addM M (quoted n false 0 0)) q = true → passedB M q = true := fun h q hq hp => by
              obtain ⟨z, hz, rfl⟩ := List.mem_map.1 hq
              have ey : y.data.length = 0 := by rw [← hy, hg]; rfl
              rw [ey] at h
              exact grow_add HR.out.tree.ok HR.out.well.ir (Nat.le_trans HR.out.well.len hKK) (show mget M (keyN (quoted n false 0 0)) = none from hg) (by simpa [quoted] using h) hz hp
            have hwell : Well (L.length + k + 1) (addM M (quoted n false 0 0)) := well_add HR.out.tree.ok HR.out.well (quoted_ir HIC.out (by decide) (by decide))
            have HIMP := Lib.hid himp
            have HWELL := Lib.hid hwell
            clear himp hwell hb4 hE4 HR3 HE3 hX4 hg hy HCON
            go_wp2_with (first | (refine wpList_store_row rfl 47 (.tmp 10) (.tmp 50) rfl X2.heap.size _ rfl rfl 47 _ HNEW3.out sizeNd rfl (cells_node y d1 a1 _ _ e1 f1) ?_; rw [HSET3.out]) | (refine wpList_store_in rfl 45 (.tmp 92) (.tmp 90) rfl wr.heap.size 15 (.agg #[.bool false, .int .i64 0, .int .i64 0]) rfl rfl (by simp [Value.cells, Value.oneCell']) 73 _ HB9.out (by show 15 + 3 ≤ 19; decide) sizeQuota (chC 1 (quoted n false 0 0) fl (.slice da n.data.length dc) (.slice aa n.acl.length ac)) rfl ?_; rw [HSET4.out]))
            refine CE.out.mono ?_
            rintro e X5 ⟨rfl, hE5⟩
            have hE5 : Ext X4 X5 := hE5
            have HR5 : Hid (GAt w.heap.size w X5 bt (L.length + k) M) := HR4.out.ext hE5 hwz4
            have hwz5 := Nat.le_trans hwz4 hE5.size
            have hb5 := (hE5.block wr.heap.size (Array.getElem?_eq_some_iff.1 HB4.out).1).trans HB4.out
            have q51 : X5.cell? ⟨wr.heap.size, 1, none⟩ = some (.string n.path) := cell_of_row _ _ _ _ _ _ hb5
            have HB5 := Lib.hid hb5
            clear CE hE5 hb5 q0 q1 HSET3 HNEW3 HB4 HE4 HR4 HSET4 HB9 HB10 k0 k1 k2 y1
            cases hfo : (firstO M n.path 1 ((n.data.length : Int) - (y.data.length : Int))).isSome with
            | true =>
              have HCON5 : Hid (GAt w.heap.size w X5 bt (L.length + (k + 1)) M) := HR5.out.more (by omega)
              clear hfo HIMP HWELL
              go_wp2
              go_roundw
              case rel => exact ⟨k + 1, M, by omega, by go_num, HCON5.out⟩
              case measure => simp [intOf]; omega
            | false =>
              have hno : firstO M n.path 1 ((n.data.length : Int) - (y.data.length : Int)) = none := by simpa using hfo
              have HI := Lib.hid (HIMP.out hno)
              have CO := Lib.hid (gover HR5.out n.path HFC.out.path)
              have hso := over_sizes HR5.out.tree.ok n.path
              have hLPl : ((overL M n.path).map (·.path)).length ≤ 4096 := by rw [List.length_map]; exact overL_le M n.path
              generalize (overL M n.path).map (·.path) = LP at *
              have HSO := Lib.hid hso
              clear HIMP hno hfo hso
              go_wp2_with fail
              refine CO.out.mono ?_
              rintro e X6 ⟨oa, oc, rfl, hst, hE6⟩
              have hE6 : Ext X5 X6 := hE6
              have HR6 : Hid (GAt w.heap.size w X6 bt (L.length + k) M) := HR5.out.ext hE6 hwz5
              have hwz6 := Nat.le_trans hwz5 hE6.size
              have hb6 := (hE6.block wr.heap.size (Array.getElem?_eq_some_iff.1 HB5.out).1).trans HB5.out
              have HB6 := Lib.hid hb6
              have HST := Lib.hid hst
              have CP := Lib.hid (gpassed HR6.out hKK LP oa oc hst hLPl HSO.out)
              clear CO hE6 hst hb6 q51 HB5 HR5
              go_wp2_with fail
              refine CP.out.mono ?_
              rintro e X7 ⟨wa, wc, rfl, hwas, hE7⟩
              have hE7 : Ext X6 X7 := hE7
              have HR7 : Hid (GAt w.heap.size w X7 bt (L.length + k) M) := HR6.out.ext hE7 hwz6
              have hwz7 := Nat.le_trans hwz6 hE7.size
              have hb7 := (hE7.block wr.heap.size (Array.getElem?_eq_some_iff.1 HB6.out).1).trans HB6.out
              have r0 : X7.cell? ⟨wr.heap.size, 0, none⟩ = some (.int .i64 1) := cell_of_row _ _ _ _ _ _ hb7
              have hc7 : ∀ j u, (ndC (quoted n false 0 0) (.slice da n.data.length dc) (.slice aa n.acl.length ac))[j]? = some u → X7.cell? ((⟨wr.heap.size, 1, none⟩ : Addr).add j) = some u := fun j u hj => by
                rw [addr_add, cell_of_row _ _ _ _ _ _ hb7]
                exact ch_nd hj
              have HC7 := Lib.hid hc7
              have CT := Lib.hid (add_any _ X7 bt M _ HR7.out.tree (quoted n false 0 0) da aa dc ac (HT.out.below HR7.out.bel hsz) (quoted_fit HFC.out _ _ _) (by omega) (HD.out.ext HR7.out.bel) (HA.out.ext HR7.out.bel))
              unfold ndC quoted at HC7
              unfold ndC at CT
              simp only [quoted] at CT
              clear hc7
              have hst7 := HST.out.ext hE7
              have HST7 := Lib.hid hst7
              have HWAS := Lib.hid hwas
              clear CP hE7 hb7 HB6 HR6 HST hst7 hwas
              go_wp2_with (refine wpList_load_at rfl 47 (.tmp 133) rfl ⟨wr.heap.size, 1, none⟩ rfl _ _ HC7.out Tryz.underlying47 rfl sizeNd ?_)
              refine CT.out.mono ?_
              intro e X8 hto
              have hto : TreeTo (fun k => w.heap.size ≤ k ∧ k < X7.heap.size) X7 bt (addM M (quoted n false 0 0)) _ _ e X8 := hto
              have hm8 := hto.2.2
              have hg8 := GAt.step HR7.out hwz7 hto (by omega) HWELL.out
              have CP8 := Lib.hid (gpassed hg8 hKL LP oa oc (HST7.out.mod hm8) hLPl HSO.out)
              have HW8 := Lib.hid (HWAS.out.mod hm8)
              have HR8 := Lib.hid hg8
              have hwz8 := Nat.le_trans hwz7 hm8.size
              obtain ⟨rfl, _, _⟩ := hto
              clear CT hm8 hg8 HR7 HST7 HWAS HWELL r0 HC7
              go_wp2_with fail
              refine CP8.out.mono ?_
              rintro e X9 ⟨ia, ic, rfl, his, hE9⟩
              have hE9 : Ext X8 X9 := hE9
              have HW9 := Lib.hid (HW8.out.mod (Mod.of_ext (S := fun _ => False) hE9))
              have HIS := Lib.hid his
              have hr9 := HR8.out.ext hE9 hwz8
              generalize hmm : (addM M (quoted n false 0 0)) = M' at *
              have HR9 : Hid (GAt w.heap.size w X9 bt (L.length + (k + 1)) M') := hr9
              clear CP8 hE9 his HW8 HR8 hr9 hmm
              go_wp2
              go_loopw [19] (fun i wi => ∃ j : Nat, j ≤ LP.length ∧ i = .int .i64 j ∧ wi = X9) (fun i _ => LP.length - (intOf i).toNat)
              case atStart => exact ⟨0, Nat.zero_le _, rfl, rfl⟩
              case round =>
                obtain ⟨j, hj, rfl, rfl⟩ := hrel
                by_cases hjl : j < LP.length
                · obtain ⟨bb1, o1, rfl, hb1, hc1⟩ := HIS.out j (passedB M' LP[j]) (by rw [List.getElem?_map, List.getElem?_eq_getElem hjl]; rfl)
                  obtain ⟨bb2, o2, rfl, hb2, hc2⟩ := HW9.out j (passedB M LP[j]) (by rw [List.getElem?_map, List.getElem?_eq_getElem hjl]; rfl)
                  have hi := HI.out LP[j] (List.getElem_mem hjl)
                  generalize passedB M' LP[j] = x at *
                  generalize passedB M LP[j] = z at *
                  cases x with
                  | false =>
                    clear hi
                    go_wp2
                    go_roundw
                    case rel => exact ⟨j + 1, by omega, by go_num, by first | rfl | trivial⟩
                    case measure => simp [intOf]; omega
                  | true =>
                    obtain rfl : z = true := hi rfl
                    clear hi
                    go_wp2
                    go_roundw
                    case rel => exact ⟨j + 1, by omega, by go_num, by first | rfl | trivial⟩
                    case measure => simp [intOf]; omega
                · obtain rfl : j = LP.length := by omega
                  go_wp2
                  go_roundw
                  case rel => exact ⟨k + 1, M', by omega, by go_num, HR9.out⟩
                  case measure => simp [intOf]; omega
          | some y0 =>
            clear hg
            go_wp2_with (refine wpList_store_row rfl 47 (.tmp 10) (.tmp 50) rfl X2.heap.size _ rfl rfl 47 _ HNEW3.out sizeNd rfl (cells_node y d1 a1 _ _ e1 f1) ?_; rw [HSET3.out])
            go_roundw
            case rel => exact ⟨k + 1, M, by omega, by go_num, HCON.out⟩
            case measure => simp [intOf]; omega
        · by_cases q2 : kd = 2
          · subst q2
            cases hg : mget M n.path.data.toList with
            | none =>
              clear hg
              go_wp2_with (refine wpList_store_row rfl 47 (.tmp 10) (.tmp 50) rfl X2.heap.size _ rfl rfl 47 _ HNEW3.out sizeNd rfl (cells_node y d1 a1 _ _ e1 f1) ?_; rw [HSET3.out])
              go_roundw
              case rel => exact ⟨k + 1, M, by omega, by go_num, HCON.out⟩
              case measure => simp [intOf]; omega
            | some y0 =>
              obtain ⟨X4, hX4⟩ : ∃ X4, X4 = X3.setRow wr.heap.size (chC 2 (quoted n y.has y.count y.bytes) fl (.slice da n.data.length dc) (.slice aa n.acl.length ac)) := ⟨_, rfl⟩
              have hE4 : Ext wr X4 := by rw [hX4]; exact HE3.out.trans' ⟨rfl, rfl, rfl, by simp [World.setRow], fun k hk => setRow_other _ _ _ _ (by omega)⟩
              have hb4 : X4.heap[wr.heap.size]? = some (.cells (chC 2 (quoted n y.has y.count y.bytes) fl (.slice da n.data.length dc) (.slice aa n.acl.length ac)) 73 (0, 0)) := by rw [hX4]; exact setRow_heap X3 wr.heap.size _ _ 73 (0, 0) HB9.out
              have HSET4 := Lib.hid hX4.symm
              have q0 : X4.cell? ⟨wr.heap.size, 0, none⟩ = some (.int .i64 2) := cell_of_row _ _ _ _ _ _ hb4
              have q1 : X4.cell? ⟨wr.heap.size, 1, none⟩ = some (.string n.path) := cell_of_row _ _ _ _ _ _ hb4
              have HR4 : Hid (GAt w.heap.size w X4 bt (L.length + k) M) := HR.out.ext hE4 hwr
              have hwz4 := Nat.le_trans hwr hE4.size
              have CE := Lib.hid (gexc HR4.out hKK n.path HFC.out.path 0 ((n.data.length : Int) - (y.data.length : Int)))
              have HB4 := Lib.hid hb4
              have HE4 := Lib.hid hE4
              have hyy : y = y0 := by rw [← hy, hg]; rfl
              have himp : firstO M n.path 0 ((n.data.length : Int) - (y.data.length : Int)) = none → ∀ q ∈ (overL M n.path).map (·.path), passedB (putM M (quoted n y.has y.count y.bytes)) q = true → passedB M q = true := fun h q hq hp => by
                obtain ⟨z, hz, rfl⟩ := List.mem_map.1 hq
                exact grow_put HR.out.tree.ok HR.out.well.ir (Nat.le_trans HR.out.well.len hKK) (n := (quoted n y.has y.count y.bytes)) (y := y) (by rw [hyy]; exact hg) rfl rfl rfl h hz hp
              have hwell : Well (L.length + k + 1) (putM M (quoted n y.has y.count y.bytes)) := well_put HR.out.tree.ok HR.out.well (quoted_ir HIC.out ((HR.out.well.ir _ (mget_some_mem (hyy ▸ hg))).1 _ (by simp)) ((HR.out.well.ir _ (mget_some_mem (hyy ▸ hg))).1 _ (by simp)))
              have hq : ∀ j u, (#[.bool y.has, .int .i64 y.count, .int .i64 y.bytes] : Array Value)[j]? = some u → X3.cell? ((⟨X2.heap.size, 14, none⟩ : Addr).add j) = some u := fun j u hj => by
                rw [addr_add, cell_of_row _ _ _ _ _ _ HB10.out]
                rcases j with _ | _ | _ | j
                · exact hj
                · exact hj
                · exact hj
                · simp at hj
              have HQ := Lib.hid hq
              have HIMP := Lib.hid himp
              clear hq
              have HWELL := Lib.hid hwell
              clear himp hwell hb4 hE4 HR3 HE3 hX4 hg hy hyy HCON
              go_wp2_with (first | (refine wpList_store_row rfl 47 (.tmp 10) (.tmp 50) rfl X2.heap.size _ rfl rfl 47 _ HNEW3.out sizeNd rfl (cells_node y d1 a1 _ _ e1 f1) ?_; rw [HSET3.out]) | (refine wpList_load_at rfl 45 (.tmp 97) rfl ⟨X2.heap.size, 14, none⟩ rfl #[.bool y.has, .int .i64 y.count, .int .i64 y.bytes] _ HQ.out Tryz.underlying45 rfl sizeQuota ?_) | (refine wpList_store_in rfl 45 (.tmp 100) (.tmp 98) rfl wr.heap.size 15 (.agg #[.bool y.has, .int .i64 y.count, .int .i64 y.bytes]) rfl rfl (by simp [Value.cells, Value.oneCell']) 73 _ HB9.out (by show 15 + 3 ≤ 19; decide) sizeQuota (chC 2 (quoted n y.has y.count y.bytes) fl (.slice da n.data.length dc) (.slice aa n.acl.length ac)) rfl ?_; rw [HSET4.out]))
              refine CE.out.mono ?_
              rintro e X5 ⟨rfl, hE5⟩
              have hE5 : Ext X4 X5 := hE5
              have HR5 : Hid (GAt w.heap.size w X5 bt (L.length + k) M) := HR4.out.ext hE5 hwz4
              have hwz5 := Nat.le_trans hwz4 hE5.size
              have hb5 := (hE5.block wr.heap.size (Array.getElem?_eq_some_iff.1 HB4.out).1).trans HB4.out
              have q51 : X5.cell? ⟨wr.heap.size, 1, none⟩ = some (.string n.path) := cell_of_row _ _ _ _ _ _ hb5
              have HB5 := Lib.hid hb5
              clear CE hE5 hb5 q0 q1 HSET3 HNEW3 HB4 HE4 HR4 HSET4 HB9 HB10 HQ k0 k1 k2 y1
              cases hfo : (firstO M n.path 0 ((n.data.length : Int) - (y.data.length : Int))).isSome with
              | true =>
                have HCON5 : Hid (GAt w.heap.size w X5 bt (L.length + (k + 1)) M) := HR5.out.more (by omega)
                clear hfo HIMP HWELL
                go_wp2
                go_roundw
                case rel => exact ⟨k + 1, M, by omega, by go_num, HCON5.out⟩
                case measure => simp [intOf]; omega
              | false =>
                have hno : firstO M n.path 0 ((n.data.length : Int) - (y.data.length : Int)) = none := by simpa using hfo
                have HI := Lib.hid (HIMP.out hno)
                have CO := Lib.hid (gover HR5.out n.path HFC.out.path)
                have hso := over_sizes HR5.out.tree.ok n.path
                have hLPl : ((overL M n.path).map (·.path)).length ≤ 4096 := by rw [List.length_map]; exact overL_le M n.path
                generalize (overL M n.path).map (·.path) = LP at *
                have HSO := Lib.hid hso
                clear HIMP hno hfo hso
                go_wp2_with fail
                refine CO.out.mono ?_
                rintro e X6 ⟨oa, oc, rfl, hst, hE6⟩
                have hE6 : Ext X5 X6 := hE6
                have HR6 : Hid (GAt w.heap.size w X6 bt (L.length + k) M) := HR5.out.ext hE6 hwz5
                have hwz6 := Nat.le_trans hwz5 hE6.size
                have hb6 := (hE6.block wr.heap.size (Array.getElem?_eq_some_iff.1 HB5.out).1).trans HB5.out
                have HB6 := Lib.hid hb6
                have HST := Lib.hid hst
                have CP := Lib.hid (gpassed HR6.out hKK LP oa oc hst hLPl HSO.out)
                clear CO hE6 hst hb6 q51 HB5 HR5
                go_wp2_with fail
                refine CP.out.mono ?_
                rintro e X7 ⟨wa, wc, rfl, hwas, hE7⟩
                have hE7 : Ext X6 X7 := hE7
                have HR7 : Hid (GAt w.heap.size w X7 bt (L.length + k) M) := HR6.out.ext hE7 hwz6
                have hwz7 := Nat.le_trans hwz6 hE7.size
                have hb7 := (hE7.block wr.heap.size (Array.getElem?_eq_some_iff.1 HB6.out).1).trans HB6.out
                have r0 : X7.cell? ⟨wr.heap.size, 0, none⟩ = some (.int .i64 2) := cell_of_row _ _ _ _ _ _ hb7
                have hc7 : ∀ j u, (ndC (quoted n y.has y.count y.bytes) (.slice da n.data.length dc) (.slice aa n.acl.length ac))[j]? = some u → X7.cell? ((⟨wr.heap.size, 1, none⟩ : Addr).add j) = some u := fun j u hj => by
                  rw [addr_add, cell_of_row _ _ _ _ _ _ hb7]
                  exact ch_nd hj
                have HC7 := Lib.hid hc7
                have CT := Lib.hid (tput_any _ X7 bt M _ HR7.out.tree (quoted n y.has y.count y.bytes) da aa dc ac (HT.out.below HR7.out.bel hsz) (quoted_fit HFC.out _ _ _) (by omega) (HD.out.ext HR7.out.bel) (HA.out.ext HR7.out.bel))
                unfold ndC quoted at HC7
                unfold ndC at CT
                simp only [quoted] at CT
                clear hc7
                have hst7 := HST.out.ext hE7
                have HST7 := Lib.hid hst7
                have HWAS := Lib.hid hwas
                clear CP hE7 hb7 HB6 HR6 HST hst7 hwas
                go_wp2_with (refine wpList_load_at rfl 47 (.tmp 139) rfl ⟨wr.heap.size, 1, none⟩ rfl _ _ HC7.out Tryz.underlying47 rfl sizeNd ?_)
                refine CT.out.mono ?_
                intro e X8 hto
                have hto : TreeTo (fun k => w.heap.size ≤ k ∧ k < X7.heap.size) X7 bt (putM M (quoted n y.has y.count y.bytes)) _ _ e X8 := hto
                have hm8 := hto.2.2
                have hg8 := GAt.step HR7.out hwz7 hto (by omega) HWELL.out
                have CP8 := Lib.hid (gpassed hg8 hKL LP oa oc (HST7.out.mod hm8) hLPl HSO.out)
                have HW8 := Lib.hid (HWAS.out.mod hm8)
                have HR8 := Lib.hid hg8
                have hwz8 := Nat.le_trans hwz7 hm8.size
                obtain ⟨rfl, _, _⟩ := hto
                clear CT hm8 hg8 HR7 HST7 HWAS HWELL r0 HC7
                go_wp2_with fail
                refine CP8.out.mono ?_
                rintro e X9 ⟨ia, ic, rfl, his, hE9⟩
                have hE9 : Ext X8 X9 := hE9
                have HW9 := Lib.hid (HW8.out.mod (Mod.of_ext (S := fun _ => False) hE9))
                have HIS := Lib.hid his
                have hr9 := HR8.out.ext hE9 hwz8
                generalize hmm : (putM M (quoted n y.has y.count y.bytes)) = M' at *
                have HR9 : Hid (GAt w.heap.size w X9 bt (L.length + (k + 1)) M') := hr9
                clear CP8 hE9 his HW8 HR8 hr9 hmm
                go_wp2
                go_loopw [19] (fun i wi => ∃ j : Nat, j ≤ LP.length ∧ i = .int .i64 j ∧ wi = X9) (fun i _ => LP.length - (intOf i).toNat)
                case atStart => exact ⟨0, Nat.zero_le _, rfl, rfl⟩
                case round =>
                  obtain ⟨j, hj, rfl, rfl⟩ := hrel
                  by_cases hjl : j < LP.length
                  · obtain ⟨bb1, o1, rfl, hb1, hc1⟩ := HIS.out j (passedB M' LP[j]) (by rw [List.getElem?_map, List.getElem?_eq_getElem hjl]; rfl)
                    obtain ⟨bb2, o2, rfl, hb2, hc2⟩ := HW9.out j (passedB M LP[j]) (by rw [List.getElem?_map, List.getElem?_eq_getElem hjl]; rfl)
                    have hi := HI.out LP[j] (List.getElem_mem hjl)
                    generalize passedB M' LP[j] = x at *
                    generalize passedB M LP[j] = z at *
                    cases x with
                    | false =>
                      clear hi
                      go_wp2
                      go_roundw
                      case rel => exact ⟨j + 1, by omega, by go_num, by first | rfl | trivial⟩
                      case measure => simp [intOf]; omega
                    | true =>
                      obtain rfl : z = true := hi rfl
                      clear hi
                      go_wp2
                      go_roundw
                      case rel => exact ⟨j + 1, by omega, by go_num, by first | rfl | trivial⟩
                      case measure => simp [intOf]; omega
                  · obtain rfl : j = LP.length := by omega
                    go_wp2
                    go_roundw
                    case rel => exact ⟨k + 1, M', by omega, by go_num, HR9.out⟩
                    case measure => simp [intOf]; omega
          · by_cases q3 : kd = 3
            · subst q3
              have HE4 := HE3
              have hb4 := HB9.out
              have hE4 := HE3.out
              generalize hX4 : X3 = X4 at *
              have q0 : X4.cell? ⟨wr.heap.size, 0, none⟩ = some (.int .i64 3) := cell_of_row _ _ _ _ _ _ hb4
              have q1 : X4.cell? ⟨wr.heap.size, 1, none⟩ = some (.string n.path) := cell_of_row _ _ _ _ _ _ hb4
              have HR4 : Hid (GAt w.heap.size w X4 bt (L.length + k) M) := HR.out.ext hE4 hwr
              have hwz4 := Nat.le_trans hwr hE4.size
              have CE := Lib.hid (gexc HR4.out hKK n.path HFC.out.path (-1) (-(y.data.length : Int)))
              have HB4 := Lib.hid hb4
              have HE4 := Lib.hid hE4
              have himp : firstO M n.path (-1) (-(y.data.length : Int)) = none → ∀ q ∈ (overL M n.path).map (·.path), passedB (remM M n.path) q = true → passedB M q = true := fun h q hq hp => by
                obtain ⟨z, hz, rfl⟩ := List.mem_map.1 hq
                exact grow_rem HR.out.tree.ok HR.out.well.ir (Nat.le_trans HR.out.well.len hKK) (dn := -1) (db := -(y.data.length : Int)) rfl (by rw [hy]) h hz hp
              have hwell : Well (L.length + k + 1) (remM M n.path) := well_rem HR.out.tree.ok HR.out.well
              have HIMP := Lib.hid himp
              have HWELL := Lib.hid hwell
              clear himp hwell hb4 hE4 HR3 hX4 hy HCON
              go_wp2_with (refine wpList_store_row rfl 47 (.tmp 10) (.tmp 50) rfl X2.heap.size _ rfl rfl 47 _ HNEW3.out sizeNd rfl (cells_node y d1 a1 _ _ e1 f1) ?_; rw [HSET3.out])
              refine CE.out.mono ?_
              rintro e X5 ⟨rfl, hE5⟩
              have hE5 : Ext X4 X5 := hE5
              have HR5 : Hid (GAt w.heap.size w X5 bt (L.length + k) M) := HR4.out.ext hE5 hwz4
              have hwz5 := Nat.le_trans hwz4 hE5.size
              have hb5 := (hE5.block wr.heap.size (Array.getElem?_eq_some_iff.1 HB4.out).1).trans HB4.out
              have q51 : X5.cell? ⟨wr.heap.size, 1, none⟩ = some (.string n.path) := cell_of_row _ _ _ _ _ _ hb5
              have HB5 := Lib.hid hb5
              clear CE hE5 hb5 q0 q1 HSET3 HNEW3 HB4 HE4 HR4 
              cases hfo : (firstO M n.path (-1) (-(y.data.length : Int))).isSome with
              | true =>
                have HCON5 : Hid (GAt w.heap.size w X5 bt (L.length + (k + 1)) M) := HR5.out.more (by omega)
                clear hfo HIMP HWELL
                go_wp2
                go_roundw
                case rel => exact ⟨k + 1, M, by omega, by go_num, HCON5.out⟩
                case measure => simp [intOf]; omega
              | false =>
                have hno : firstO M n.path (-1) (-(y.data.length : Int)) = none := by simpa using hfo
                have HI := Lib.hid (HIMP.out hno)
                have CO := Lib.hid (gover HR5.out n.path HFC.out.path)
                have hso := over_sizes HR5.out.tree.ok n.path
                have hLPl : ((overL M n.path).map (·.path)).length ≤ 4096 := by rw [List.length_map]; exact overL_le M n.path
                generalize (overL M n.path).map (·.path) = LP at *
                have HSO := Lib.hid hso
                clear HIMP hno hfo hso
                go_wp2_with fail
                refine CO.out.mono ?_
                rintro e X6 ⟨oa, oc, rfl, hst, hE6⟩
                have hE6 : Ext X5 X6 := hE6
                have HR6 : Hid (GAt w.heap.size w X6 bt (L.length + k) M) := HR5.out.ext hE6 hwz5
                have hwz6 := Nat.le_trans hwz5 hE6.size
                have hb6 := (hE6.block wr.heap.size (Array.getElem?_eq_some_iff.1 HB5.out).1).trans HB5.out
                have HB6 := Lib.hid hb6
                have HST := Lib.hid hst
                have CP := Lib.hid (gpassed HR6.out hKK LP oa oc hst hLPl HSO.out)
                clear CO hE6 hst hb6 q51 HB5 HR5
                go_wp2_with fail
                refine CP.out.mono ?_
                rintro e X7 ⟨wa, wc, rfl, hwas, hE7⟩
                have hE7 : Ext X6 X7 := hE7
                have HR7 : Hid (GAt w.heap.size w X7 bt (L.length + k) M) := HR6.out.ext hE7 hwz6
                have hwz7 := Nat.le_trans hwz6 hE7.size
                have hb7 := (hE7.block wr.heap.size (Array.getElem?_eq_some_iff.1 HB6.out).1).trans HB6.out
                have r0 : X7.cell? ⟨wr.heap.size, 0, none⟩ = some (.int .i64 3) := cell_of_row _ _ _ _ _ _ hb7
                have r1 : X7.cell? ⟨wr.heap.size, 1, none⟩ = some (.string n.path) := cell_of_row _ _ _ _ _ _ hb7
                have CT := Lib.hid (rem_any _ X7 bt M _ HR7.out.tree n.path HFC.out.path (by omega))
                have hst7 := HST.out.ext hE7
                have HST7 := Lib.hid hst7
                have HWAS := Lib.hid hwas
                clear CP hE7 hb7 HB6 HR6 HST hst7 hwas
                go_wp2_with fail
                refine CT.out.mono ?_
                intro e X8 hto
                have hto : TreeTo (fun k => w.heap.size ≤ k ∧ k < X7.heap.size) X7 bt (remM M n.path) _ _ e X8 := hto
                have hm8 := hto.2.2
                have hg8 := GAt.step HR7.out hwz7 hto (by omega) HWELL.out
                have CP8 := Lib.hid (gpassed hg8 hKL LP oa oc (HST7.out.mod hm8) hLPl HSO.out)
                have HW8 := Lib.hid (HWAS.out.mod hm8)
                have HR8 := Lib.hid hg8
                have hwz8 := Nat.le_trans hwz7 hm8.size
                obtain ⟨rfl, _, _⟩ := hto
                clear CT hm8 hg8 HR7 HST7 HWAS HWELL r0 r1
                go_wp2_with fail
                refine CP8.out.mono ?_
                rintro e X9 ⟨ia, ic, rfl, his, hE9⟩
                have hE9 : Ext X8 X9 := hE9
                have HW9 := Lib.hid (HW8.out.mod (Mod.of_ext (S := fun _ => False) hE9))
                have HIS := Lib.hid his
                have hr9 := HR8.out.ext hE9 hwz8
                generalize hmm : (remM M n.path) = M' at *
                have HR9 : Hid (GAt w.heap.size w X9 bt (L.length + (k + 1)) M') := hr9
                clear CP8 hE9 his HW8 HR8 hr9 hmm
                go_wp2
                go_loopw [19] (fun i wi => ∃ j : Nat, j ≤ LP.length ∧ i = .int .i64 j ∧ wi = X9) (fun i _ => LP.length - (intOf i).toNat)
                case atStart => exact ⟨0, Nat.zero_le _, rfl, rfl⟩
                case round =>
                  obtain ⟨j, hj, rfl, rfl⟩ := hrel
                  by_cases hjl : j < LP.length
                  · obtain ⟨bb1, o1, rfl, hb1, hc1⟩ := HIS.out j (passedB M' LP[j]) (by rw [List.getElem?_map, List.getElem?_eq_getElem hjl]; rfl)
                    obtain ⟨bb2, o2, rfl, hb2, hc2⟩ := HW9.out j (passedB M LP[j]) (by rw [List.getElem?_map, List.getElem?_eq_getElem hjl]; rfl)
                    have hi := HI.out LP[j] (List.getElem_mem hjl)
                    generalize passedB M' LP[j] = x at *
                    generalize passedB M LP[j] = z at *
                    cases x with
                    | false =>
                      clear hi
                      go_wp2
                      go_roundw
                      case rel => exact ⟨j + 1, by omega, by go_num, by first | rfl | trivial⟩
                      case measure => simp [intOf]; omega
                    | true =>
                      obtain rfl : z = true := hi rfl
                      clear hi
                      go_wp2
                      go_roundw
                      case rel => exact ⟨j + 1, by omega, by go_num, by first | rfl | trivial⟩
                      case measure => simp [intOf]; omega
                  · obtain rfl : j = LP.length := by omega
                    go_wp2
                    go_roundw
                    case rel => exact ⟨k + 1, M', by omega, by go_num, HR9.out⟩
                    case measure => simp [intOf]; omega
            · have n1 : (kd == 1) = false := by simpa using q1
              have n2 : (kd == 2) = false := by simpa using q2
              by_cases q4 : kd < 1
              · have n4 : decide (kd < 1) = true := by simpa using q4
                go_wp2_with (refine wpList_store_row rfl 47 (.tmp 10) (.tmp 50) rfl X2.heap.size _ rfl rfl 47 _ HNEW3.out sizeNd rfl (cells_node y d1 a1 _ _ e1 f1) ?_; rw [HSET3.out])
                go_roundw
                case rel => exact ⟨k + 1, M, by omega, by go_num, HCON.out⟩
                case measure => simp [intOf]; omega
              · have n4 : decide (kd < 1) = false := by simpa using q4
                have n5 : decide (3 < kd) = true := by simp; omega
                go_wp2_with (refine wpList_store_row rfl 47 (.tmp 10) (.tmp 50) rfl X2.heap.size _ rfl rfl 47 _ HNEW3.out sizeNd rfl (cells_node y d1 a1 _ _ e1 f1) ?_; rw [HSET3.out])
                go_roundw
                case rel => exact ⟨k + 1, M, by omega, by go_num, HCON.out⟩
                case measure => simp [intOf]; omega
      · obtain rfl : k = G.length := by omega
        have HFIN : Hid (Ext w wr) := HR.out.bel
        go_wp2
        go_ret
        exact ⟨rfl, HFIN.out⟩
end Go.Proofs.YtamolbegmkngdaaGreatDoor
