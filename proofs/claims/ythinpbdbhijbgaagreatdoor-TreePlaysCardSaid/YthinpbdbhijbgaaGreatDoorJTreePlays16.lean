/- The walk of the law's does: a call on both trees, its node overwritten behind it, two looks. The walk of the tree's Clone: a range over the map of nodes, each laid into a new tree, whatever the order. -/
import Derived.Test.YthinpbdbhijbgaaGreatDoorJTreePlays15
import Derived.Test.YthinpbdbhijbgaaGreatDoorJTreePlays4
import Derived.Test.YthinpbdbhijbgaaGreatDoorJTreePlays10
import Derived.Test.YthinpbdbhijbgaaGreatDoorJTreePlays5
import Derived.Test.YthinpbdbhijbgaaGreatDoorJTreePlays12
import Derived.Test.YthinpbdbhijbgaaGreatDoorJTreePlays14
namespace Go.Proofs.YthinpbdbhijbgaaGreatDoor
open Go.RowKit Go.Sort
set_option maxHeartbeats 16000000
set_option maxRecDepth 100000

theorem does_any (B : Nat) (S R : Nat → Prop) (w : World) (bt br K : Nat) (M : List (Key × Nd)) (h2 : Two7 B S R w bt br K M) (kk : Int) (pp : ByteArray) (n : Nd) (da aa : Option Addr) (dc ac : Nat) (hTB : Tabs w) (hB2 : 2 ≤ B) (hf : Fit n) (hir : Ir n) (hpp : pp.size ≤ 9223372036854775800) (hK : (K + 1) * 168 ≤ 140737488355328)
    (hD : Cells B w da (n.data.map u8v)) (hA : Cells B w aa (acCs n.acl)) :
    Calls Tryz.prog 19 #[.pointer (some ⟨bt, 0, none⟩), .pointer (some ⟨br, 0, none⟩), .agg (opC kk pp n (.slice da n.data.length dc) (.slice aa n.acl.length ac))] w fun e w' => e = .returned (.bool true) ∧ Aft7 B S R w w bt br (K + 1) (opM M ⟨kk, pp, n⟩) w' := by
  have hBw := h2.size
  have hlow : ∀ k, S k ∨ k = br → B ≤ k := fun k hk => hk.elim (fun h => h2.low k (.inl h)) fun e => by rw [e]; exact h2.own
  have hSw : ∀ k, S k ∨ R k ∨ k = br → k < w.heap.size := fun k hk => by
    rcases hk with hk | hk | hk
    · exact h2.tree.bound k hk
    · exact (h2.ref.bound k hk).1
    · rw [hk]; exact h2.ref.lt
  have hMK := h2.well.len
  have hM := h2.tree.ok
  have hfd := hf.data
  have hfa := hf.acl
  have hps := hf.path
  obtain ⟨W1, hW1⟩ : ∃ W1, W1 = w.alloc (.cells (opC kk pp n (.slice da n.data.length dc) (.slice aa n.acl.length ac)) 46) := ⟨_, rfl⟩
  have hE1 : Ext w W1 := by rw [hW1]; exact Ext.alloc _ _
  have hz1 : W1.heap.size = w.heap.size + 1 := by rw [hW1]; simp
  have hn1 : W1.heap[w.heap.size]? = some (.cells (opC kk pp n (.slice da n.data.length dc) (.slice aa n.acl.length ac)) 46 (0, 0)) := by rw [hW1]; exact heap_alloc_new w _
  have hopN : ∀ W : World, W.heap[w.heap.size]? = some (.cells (opC kk pp n (.slice da n.data.length dc) (.slice aa n.acl.length ac)) 46 (0, 0)) → ∀ j u, (ndC n (.slice da n.data.length dc) (.slice aa n.acl.length ac))[j]? = some u → W.cell? ((⟨w.heap.size, 2, none⟩ : Addr).add j) = some u := fun W hW j u hj => by
    rw [addr_add, cell_of_row _ _ _ _ _ _ hW]; exact op_nd hj
  have hD1 := hD.below (hE1.mono hBw)
  have hA1 := hA.below (hE1.mono hBw)
  have CC := rclone_own n da aa dc ac W1 hf (hD1.mono (by omega)) (hA1.mono (by omega))
  have HN0 := Lib.hid (hopN W1 hn1)
  have HOPN := Lib.hid hopN
  have HLOW := Lib.hid hlow
  have HSW := Lib.hid hSw
  have H2 := Lib.hid h2
  have HTB := Lib.hid hTB
  have HF := Lib.hid hf
  have HIR := Lib.hid hir
  have HD := Lib.hid hD
  have HA := Lib.hid hA
  have HM := Lib.hid hM
  have HE1 := Lib.hid hE1
  have HN1 := Lib.hid hn1
  have HX1 : Hid (∀ j : Nat, W1.cell? ⟨w.heap.size, j, none⟩ = (opC kk pp n (.slice da n.data.length dc) (.slice aa n.acl.length ac))[j]?) := fun j => cell_of_row _ _ _ _ _ _ hn1
  rw [hW1] at CC HN0
  have HW1 := Lib.hid hW1
  unfold opC at CC HN0 HW1 ⊢
  have CC := Lib.hid CC
  unfold ndC at HN0 CC
  clear hopN hlow hSw h2 hTB hf hir hD hA hM hE1 hn1 hW1 hD1 hA1
  go_enter Tryz.func19, Tryz.ntmps19
  go_wp2_with (refine wpList_load_at rfl 44 (.tmp 12) rfl _ rfl _ _ HN0.out Tryz.underlying44 rfl sizeNd ?_)
  refine CC.out.mono ?_
  rintro e w2 ⟨d1, e1, a1, f1, rfl, hNS, ho1, ho2, hap, hE2⟩
  rw [← HW1.out] at hNS ho1 ho2 hE2
  have hE2 : Ext W1 w2 := hE2
  obtain ⟨d2, e2, a2, f2, X, e0, hset, hbx, hEX, hDX, hAX⟩ := box_node hNS fun b hb => hb.2
  obtain ⟨r1, r2, r3, r4⟩ : d1 = d2 ∧ e1 = e2 ∧ a1 = a2 ∧ f1 = f2 := by
    simp only [Value.agg.injEq] at e0
    have q1 := congrArg (·[1]?) e0
    have q2 := congrArg (·[2]?) e0
    simp [ndC] at q1 q2
    exact ⟨q1.1, q1.2, q2.1, q2.2⟩
  subst r1 r2 r3 r4
  clear e0
  have hEw2 := HE1.out.trans hE2
  have hEwX := hEw2.trans hEX
  have hzw2 := hEw2.size
  have hzX : w2.heap.size < X.heap.size := (Array.getElem?_eq_some_iff.1 hbx).1
  have hbX : X.heap[w.heap.size]? = some (.cells (opC kk pp n (.slice da n.data.length dc) (.slice aa n.acl.length ac)) 46 (0, 0)) := (hEX.block _ (by have := hE2.size; omega)).trans ((hE2.block _ (by omega)).trans HN1.out)
  have H2X := Lib.hid (H2.out.ext hEwX)
  have hzWw : w.heap.size ≤ X.heap.size := hEwX.size
  have HEW := Lib.hid hEwX
  have HO1 := Lib.hid (own_move (w' := X) ho1 (fun g _ h => hEX.block g h) (show w.heap.size ≤ W1.heap.size by omega))
  have HO2 := Lib.hid (own_move (w' := X) ho2 (fun g _ h => hEX.block g h) (show w.heap.size ≤ W1.heap.size by omega))
  have hg1 : ∀ g, (Value.slice d1 n.data.length e1).ownBlock = some g → W1.heap.size ≤ g ∧ g < w2.heap.size := fun g hg => World.ownsRow.lt ho1 g hg
  have hg2 : ∀ g, (Value.slice a1 n.acl.length f1).ownBlock = some g → W1.heap.size ≤ g ∧ g < w2.heap.size := fun g hg => World.ownsRow.lt ho2 g hg
  have HG1 := Lib.hid hg1
  have HG2 := Lib.hid hg2
  have HAP := Lib.hid hap
  have HBX := Lib.hid hbX
  have HB7 := Lib.hid hbx
  have HDX := Lib.hid hDX
  have HAX := Lib.hid hAX
  have HSET := Lib.hid hset
  have HNEW := Lib.hid (heap_alloc_new w2 (.cells zeroNd 44))
  have hk3 : X.cell? ⟨w.heap.size, 0, none⟩ = some (.int .i64 kk) := by rw [cell_of_row _ _ _ _ _ _ hbX]; rfl
  have HTX := Lib.hid (HTB.out.below (hEwX.mono hBw) hB2)
  have HWO := Lib.hid fun (M' : List (Key × Nd)) (h : M' = opM M ⟨kk, pp, n⟩) => (h ▸ well7_op (o := ⟨kk, pp, n⟩) HM.out H2.out.well HIR.out : Well7 (K + 1) M')
  clear CC HN0 hNS ho1 ho2 hE2 hset hbx hEX hDX hAX hEw2 hEwX hbX hg1 hg2 hap
  have hBX : B ≤ X.heap.size := by omega
  unfold ndC at HSET
  unfold zeroNd at HSET HNEW
  unfold ndC
  have hDB : ∀ W, Below B X W → Cells W.heap.size W da (n.data.map u8v) := fun W h => (HD.out.below ((HEW.out.mono hBw).trans h)).mono (by have := h.size; omega)
  have hAB : ∀ W, Below B X W → Cells W.heap.size W aa (acCs n.acl) := fun W h => (HA.out.below ((HEW.out.mono hBw).trans h)).mono (by have := h.size; omega)
  by_cases hk2 : kk = 2
  · have f2 : (kk == 2) = true := by simpa using hk2
    have HMM := Lib.hid (show opM M ⟨kk, pp, n⟩ = putM M n by unfold opM; rw [if_pos hk2])
    clear hk2
    obtain ⟨er, her⟩ : ∃ er, er = putE M n := ⟨_, rfl⟩
    have HEE := Lib.hid her.symm
    have her2 : (er != er) = false := by simp
    clear her
    go_wp2_with (refine wpList_store_row rfl 44 (.tmp 7) (.tmp 14) rfl w2.heap.size _ rfl rfl 44 _ HNEW.out sizeNd rfl (cells_node n d1 a1 _ _ e1 f1) ?_; rw [HSET.out])
    refine wp_region_P (by kernel_rfl) (region_state_vals 95 (PG7 2 6 B S R w X bt br K M (opM M ⟨kk, pp, n⟩)) (by unfold PG7; simp only [Bool.false_eq_true, if_false]; exact Ext.drew _) [.pointer (some ⟨bt, 0, none⟩), .agg (ndC n (.slice d1 n.data.length e1) (.slice a1 n.acl.length f1)), .int .i64 er, .pointer (some ⟨br, 0, none⟩), .pointer (some ⟨w.heap.size, 2, none⟩), .agg (ndC n (.slice da n.data.length dc) (.slice aa n.acl.length ac)), .int .i64 er, .int .i64 er, .int .i64 er] rfl (by decide) rfl ?duties ?rest)
    case duties =>
      refine ⟨?_, ?_, ?_, ?_, ?_, ?_, ?_, ?_, ?_, trivial⟩
      · refine dutyS_rd (j2 := 6) 4 (by kernel_rfl) (PG7.ext (by decide) (by decide)) fun d a W hj hG hF hA => ?_
        have x1 := hF.slot 0 _ (by decide) rfl
        exact wp_value (w' := W) (v := .pointer (some ⟨bt, 0, none⟩)) (by simp only [execOp, x1]; simp [go_sem]) ⟨_, rfl, rfl, Ext.refl _⟩
      · refine dutyS_rd (j2 := 6) 4 (by kernel_rfl) (PG7.ext (by decide) (by decide)) fun d a W hj hG hF hA => ?_
        have x1 := hF.slot 7 _ (by decide) rfl
        have hb7 := ((hG.chg hj).same _ (Array.getElem?_eq_some_iff.1 HB7.out).1 (fun hs => by have := HSW.out w2.heap.size (.inl hs); omega)).trans HB7.out
        exact wp_value (ex_load_row rfl _ x1 44 _ (0, 0) _ hb7 Tryz.underlying44 rfl sizeNd) ⟨_, rfl, rfl, Ext.refl _⟩
      · intro d a W hdi hcl _ hG hF hA
        have x1 := hA.val 0 26 rfl rfl ⟨⟨0, .data⟩, by simp, rfl, rfl⟩ rfl
        have x2 := hA.val 1 27 rfl rfl ⟨⟨1, .data⟩, by simp, rfl, rfl⟩ rfl
        have hj2 : d 6 = false := by
          cases hq : d 6 with
          | false => rfl
          | true => have := hcl 2 6 2 (by kernel_rfl) hq; rw [hdi] at this; cases this
        unfold PG7 at hG
        simp only [hj2, hdi, Bool.false_eq_true, if_false] at hG
        refine wp_enter (ex_call rfl (enters_f Tryz.func75 (by kernel_rfl) rfl)) (by simp only [List.map_toArray, List.map_cons, List.map_nil, x1, x2]; exact tput_any S W bt M K ((H2X.out.ext hG).tree) n d1 a1 e1 f1 (HTX.out.below (hG.mono hBX) hB2) HF.out (by omega) (HDX.out.ext hG) (HAX.out.ext hG)) ?_
        intro e W' hT
        have he := hT.1
        subst he
        refine ⟨_, rfl, _, by rw [HEE.out], rfl, ?_⟩
        show PG7 2 6 _ _ _ _ _ _ _ _ _ _ (fun k => d k || k == 2) W'
        unfold PG7
        simp only [hj2, beq_self_eq_true, Bool.or_true, if_true, (by decide : ((6 : Nat) == 2) = false), Bool.or_false, Bool.false_eq_true, if_false]
        rw [HMM.out]
        exact H2X.out.mid hG hT (by omega)
      · refine dutyS_rd (j2 := 6) 4 (by kernel_rfl) (PG7.ext (by decide) (by decide)) fun d a W hj hG hF hA => ?_
        have x1 := hF.slot 1 _ (by decide) rfl
        exact wp_value (w' := W) (v := .pointer (some ⟨br, 0, none⟩)) (by simp only [execOp, x1]; simp [go_sem]) ⟨_, rfl, rfl, Ext.refl _⟩
      · refine dutyS_rd (j2 := 6) 4 (by kernel_rfl) (PG7.ext (by decide) (by decide)) fun d a W hj hG hF hA => ?_
        have x1 := hF.slot 5 _ (by decide) rfl
        exact wp_value (w' := W) (v := .pointer (some ⟨w.heap.size, 2, none⟩)) (by simp only [execOp, x1]; simp [go_sem]) ⟨_, rfl, rfl, Ext.refl _⟩
      · refine dutyS_rd (j2 := 6) 4 (by kernel_rfl) (PG7.ext (by decide) (by decide)) fun d a W hj hG hF hA => ?_
        have hb0 : W.heap[w.heap.size]? = some (.cells (opC kk pp n (.slice da n.data.length dc) (.slice aa n.acl.length ac)) 46 (0, 0)) := ((hG.chg hj).same _ (Array.getElem?_eq_some_iff.1 HBX.out).1 (fun hs => by have := HSW.out w.heap.size (.inl hs); omega)).trans HBX.out
        have x1 := hA.val 4 30 rfl rfl ⟨⟨4, .data⟩, by simp, rfl, rfl⟩ rfl
        exact wp_value (ex_load_at rfl _ x1 (ndC n (.slice da n.data.length dc) (.slice aa n.acl.length ac)) (HOPN.out W hb0) Tryz.underlying44 rfl sizeNd) ⟨_, rfl, rfl, Ext.refl _⟩
      · intro d a W hdi hcl hpre hG hF hA
        have x1 := hA.val 3 29 rfl rfl ⟨⟨3, .data⟩, by simp, rfl, rfl⟩ rfl
        have x2 := hA.val 5 31 rfl rfl ⟨⟨5, .data⟩, by simp, rfl, rfl⟩ rfl
        have hj1 : d 2 = true := hpre ⟨2, .chain⟩ (by simp) rfl
        unfold PG7 at hG
        simp only [hj1, hdi, Bool.false_eq_true, if_false, if_true] at hG
        obtain ⟨S', hm1, hm2, hm3, hm4⟩ := id hG
        have hBel : Below B X W := hm4.below (fun k hk => HLOW.out k (.inl hk)) hBX
        refine wp_enter (ex_call rfl (enters_f Tryz.func76 (by kernel_rfl) rfl)) (by simp only [List.map_toArray, List.map_cons, List.map_nil, x1, x2]; exact rput_s R W br M hm2 HM.out n da aa dc ac (HTX.out.below hBel hB2) HF.out (by omega) (hDB W hBel) (hAB W hBel)) ?_
        intro e W' hT
        have he := hT.1
        subst he
        refine ⟨_, rfl, _, by rw [HEE.out], rfl, ?_⟩
        show PG7 2 6 _ _ _ _ _ _ _ _ _ _ (fun k => d k || k == 6) W'
        unfold PG7
        simp only [beq_self_eq_true, Bool.or_true, if_true]
        rw [← HMM.out] at hT
        exact Mid7.aft H2X.out HEW.out hG hT (HWO.out _ rfl)
      · refine dutyS_ext (PG7.ext (by decide) (by decide)) fun d a W hG hF hA => ?_
        have x1 := hA.val 2 28 rfl rfl ⟨⟨2, .data⟩, by simp, rfl, rfl⟩ rfl
        exact wp_value (w' := W) (v := .int .i64 er) (by simp only [execOp, x1]; simp [go_sem]) ⟨_, rfl, rfl, Ext.refl _⟩
      · refine dutyS_ext (PG7.ext (by decide) (by decide)) fun d a W hG hF hA => ?_
        have x1 := hA.val 6 32 rfl rfl ⟨⟨6, .data⟩, by simp, rfl, rfl⟩ rfl
        exact wp_value (w' := W) (v := .int .i64 er) (by simp only [execOp, x1]; simp [go_sem]) ⟨_, rfl, rfl, Ext.refl _⟩
    case rest =>
      intro d W4 hdn hG4
      unfold PG7 at hG4
      rw [if_pos (hdn 6 (by decide))] at hG4
      obtain ⟨hAF, hCX⟩ := hG4
      have HAF := Lib.hid hAF
      have HCX := Lib.hid hCX
      clear hAF hCX hdn
      simp only [filled, List.take_succ_cons, List.take_zero, List.zip_cons_cons, List.zip_nil_left, List.foldl_cons, List.foldl_nil, Act.put, List.setIfInBounds_toArray, List.set_cons_succ, List.set_cons_zero, Exit.inBlock, Exit.then]
      rename_i hK
      refine hK _ _ ?_
      clear hK
      have hs4 : ∀ g, w.heap.size ≤ g → g < X.heap.size → W4.heap[g]? = X.heap[g]? := fun g h1 h2 => HCX.out.same g h2 fun hs => by
        have := HSW.out g (hs.elim .inl fun e => .inr (.inr e))
        omega
      have hBel : Below B X W4 := HCX.out.below HLOW.out hBX
      have hb0 := (hs4 w.heap.size (Nat.le_refl _) (by omega)).trans HBX.out
      have hb7 := (hs4 w2.heap.size hzw2 hzX).trans HB7.out
      have ho1 := own_move (w' := W4) HO1.out (fun g h1 h2 => hs4 g h1 h2) (Nat.le_refl _)
      have ho2 := own_move (w' := W4) HO2.out (fun g h1 h2 => hs4 g h1 h2) (Nat.le_refl _)
      have CS := Lib.hid (rsame_self n d1 a1 da aa e1 f1 dc ac W4 HF.out (cells_of_row ho1) (cells_of_row ho2) (hDB W4 hBel) (hAB W4 hBel))
      have HOV := Lib.hid (show Ovr B S R w X bt br (K + 1) (opM M ⟨kk, pp, n⟩) w2.heap.size w.heap.size (opC kk pp n (.slice da n.data.length dc) (.slice aa n.acl.length ac)) n d1 a1 e1 f1 0 W4 from ⟨HAF.out, hb0, hb7, ⟨_, ho1, rfl⟩, ⟨_, ho2⟩⟩)
      have HB74 := Lib.hid hb7
      have HOP4 := Lib.hid (HOPN.out W4 hb0)
      unfold ndC at HB74 HOP4 CS
      clear hs4 hBel hb0 hb7 ho1 ho2 HAF HCX
      go_wp2_with (first | (refine wpList_load_row_g rfl 44 (.tmp 7) rfl w2.heap.size rfl 44 _ (0, 0) _ HB74.out Tryz.underlying44 rfl sizeNd ?_) | (refine wpList_load_at_g rfl 44 (.tmp 48) rfl _ rfl _ _ HOP4.out Tryz.underlying44 rfl sizeNd ?_))
      refine CS.out.mono ?_
      rintro e W5 ⟨rfl, hE5⟩
      have HOV5 := Lib.hid (HOV.out.ext hE5)
      clear CS hE5 HOV HB74 HOP4
      go_wp2
      go_loopw [10] (fun i wr => ∃ k : Nat, k ≤ n.data.length ∧ i = .int .i64 k ∧ Hid (Ovr B S R w X bt br (K + 1) (opM M ⟨kk, pp, n⟩) w2.heap.size w.heap.size (opC kk pp n (.slice da n.data.length dc) (.slice aa n.acl.length ac)) n d1 a1 e1 f1 k wr)) (fun i _ => n.data.length - (intOf i).toNat)
      case atStart => exact ⟨0, Nat.zero_le _, rfl, HOV5.out⟩
      case round =>
        obtain ⟨k, hk, rfl, HR⟩ := hrel
        have hc1 : wr.cell? ⟨w2.heap.size, 1, none⟩ = some (.slice d1 n.data.length e1) := by rw [cell_of_row _ _ _ _ _ _ HR.out.node]; rfl
        by_cases hlt : k < n.data.length
        · obtain ⟨g, cur, ed, hgr, hgs, hcd, -⟩ := HR.out.put1 HSW.out (fun g hg => by have := HG1.out g hg; exact ⟨by omega, this.2⟩) hzX rfl HAP.out hlt undef
          have hP := fun W (hE : Ext wr W) => (HR.out.ext hE).put1 HSW.out (fun g hg => by have := HG1.out g hg; exact ⟨by omega, this.2⟩) hzX rfl HAP.out hlt (.int .u8 (bits .xor .u8 (n.data[k]).toNat 85))
          subst ed
          have HP := Lib.hid hP
          generalize n.data[k] = x at *
          have hcd : wr.cell? ⟨g, k, none⟩ = some (.int .u8 x.toNat) := hcd
          clear hP
          go_wp2
          refine wp_region_P (by kernel_rfl) (region_store_vals 95 [.pointer (some ⟨w2.heap.size, 1, none⟩), .slice (some ⟨g, 0, none⟩) n.data.length e1, .int .i64 k, .pointer (some ⟨w2.heap.size, 1, none⟩), .slice (some ⟨g, 0, none⟩) n.data.length e1, .int .i64 k, .pointer (some ⟨g, k, none⟩), .int .u8 x.toNat, .int .u8 (bits .xor .u8 x.toNat 85), .pointer (some ⟨g, k, none⟩)] 10 _ rfl rfl rfl rfl rfl (by decide) rfl ?duties7 ?last7)
          case duties7 =>
            refine ⟨?_, ?_, ?_, ?_, ?_, ?_, ?_, ?_, ?_, ?_, trivial⟩
            · refine duty_free rfl fun a w' hE hF hA => ?_
              have x1 := hF.slot 7 _ (by decide) rfl
              exact wp_value (w' := w') (v := .pointer (some ⟨w2.heap.size, 1, none⟩)) (by simp only [execOp, x1]; simp [go_sem]) ⟨_, rfl, rfl, Ext.refl _⟩
            · refine duty_free rfl fun a w' hE hF hA => ?_
              have x1 := hA.val 0 60 rfl rfl ⟨⟨0, .data⟩, by simp, rfl, rfl⟩ rfl
              exact wp_value (ex_cell rfl _ _ x1 ((hE.cell (World.block_lt_of_cell? _ _ hc1)).trans hc1) rfl Tryz.underlying41) ⟨_, rfl, rfl, Ext.refl _⟩
            · refine duty_free rfl fun a w' hE hF hA => ?_
              have x1 := hF.slot 10 _ (by decide) rfl
              exact wp_value (w' := w') (v := .int .i64 k) (by simp only [execOp, x1]; simp [go_sem]) ⟨_, rfl, rfl, Ext.refl _⟩
            · refine duty_free rfl fun a w' hE hF hA => ?_
              have x1 := hF.slot 7 _ (by decide) rfl
              exact wp_value (w' := w') (v := .pointer (some ⟨w2.heap.size, 1, none⟩)) (by simp only [execOp, x1]; simp [go_sem]) ⟨_, rfl, rfl, Ext.refl _⟩
            · refine duty_free rfl fun a w' hE hF hA => ?_
              have x1 := hA.val 3 63 rfl rfl ⟨⟨3, .data⟩, by simp, rfl, rfl⟩ rfl
              exact wp_value (ex_cell rfl _ _ x1 ((hE.cell (World.block_lt_of_cell? _ _ hc1)).trans hc1) rfl Tryz.underlying41) ⟨_, rfl, rfl, Ext.refl _⟩
            · refine duty_free rfl fun a w' hE hF hA => ?_
              have x1 := hF.slot 10 _ (by decide) rfl
              exact wp_value (w' := w') (v := .int .i64 k) (by simp only [execOp, x1]; simp [go_sem]) ⟨_, rfl, rfl, Ext.refl _⟩
            · refine duty_free rfl fun a w' hE hF hA => ?_
              have x1 := hA.val 4 64 rfl rfl ⟨⟨4, .data⟩, by simp, rfl, rfl⟩ rfl
              have x2 := hA.val 5 65 rfl rfl ⟨⟨5, .data⟩, by simp, rfl, rfl⟩ rfl
              exact wp_value (w' := w') (v := .pointer (some ⟨g, k, none⟩)) (by simp only [execOp, x1, x2]; simp [go_sem, hlt]) ⟨_, rfl, rfl, Ext.refl _⟩
            · refine duty_free rfl fun a w' hE hF hA => ?_
              have x1 := hA.val 6 66 rfl rfl ⟨⟨6, .data⟩, by simp, rfl, rfl⟩ rfl
              exact wp_value (ex_cell rfl _ _ x1 ((hE.cell (World.block_lt_of_cell? _ _ hcd)).trans hcd) rfl Tryz.underlying5) ⟨_, rfl, rfl, Ext.refl _⟩
            · refine duty_free rfl fun a w' hE hF hA => ?_
              have x1 := hA.val 7 67 rfl rfl ⟨⟨7, .data⟩, by simp, rfl, rfl⟩ rfl
              exact wp_value (w' := w') (v := .int .u8 (bits .xor .u8 x.toNat 85)) (by simp only [execOp, x1]; simp [go_sem]) ⟨_, rfl, rfl, Ext.refl _⟩
            · refine duty_free rfl fun a w' hE hF hA => ?_
              have x1 := hA.val 1 61 rfl rfl ⟨⟨1, .data⟩, by simp, rfl, rfl⟩ rfl
              have x2 := hA.val 2 62 rfl rfl ⟨⟨2, .data⟩, by simp, rfl, rfl⟩ rfl
              exact wp_value (w' := w') (v := .pointer (some ⟨g, k, none⟩)) (by simp only [execOp, x1, x2]; simp [go_sem, hlt]) ⟨_, rfl, rfl, Ext.refl _⟩
          case last7 =>
            intro W6 hE6
            simp only [filled, List.take_succ_cons, List.take_zero, List.zip_cons_cons, List.zip_nil_left, List.foldl_cons, List.foldl_nil, Act.put, List.setIfInBounds_toArray, List.set_cons_succ, List.set_cons_zero]
            obtain ⟨g', cur6, eg, hg6, hs6, -, hov6⟩ := HP.out W6 hE6
            obtain rfl : g = g' := by simpa using eg
            have HOV6 := Lib.hid hov6
            have HG6 := Lib.hid hg6
            clear hov6 hg6 HP hcd hc1 hgr eg hE6
            refine wp_store_in 5 (.tmp 69) (.tmp 68) g k (.int .u8 (bits .xor .u8 x.toNat 85)) 5 cur6 _ HG6.out (show k + 1 ≤ cur6.size from hs6) (infoU8c _) rfl (one_int _ _) ?_ rfl rfl rfl
            simp only [Exit.inBlock, Exit.then, Act.put]
            rename_i hK
            refine hK _ _ ?_
            clear hK
            go_wp2
            go_roundw
            case rel => exact ⟨k + 1, by omega, by go_num, by have h := HOV6.out; simp only [List.append_assoc, List.singleton_append] at h; exact h⟩
            case measure => simp [intOf]; omega
        · obtain rfl : k = n.data.length := by omega
          clear HOV5 hlt hk
          go_wp2
          go_loopw [11] (fun i wr => ∃ k : Nat, k ≤ n.acl.length ∧ i = .int .i64 k ∧ Hid (Ovr B S R w X bt br (K + 1) (opM M ⟨kk, pp, n⟩) w2.heap.size w.heap.size (opC kk pp n (.slice da n.data.length dc) (.slice aa n.acl.length ac)) n d1 a1 e1 f1 n.data.length wr)) (fun i _ => n.acl.length - (intOf i).toNat)
          case atStart => exact ⟨0, Nat.zero_le _, rfl, HR.out⟩
          case round =>
            obtain ⟨k, hk, rfl, HR⟩ := hrel
            have hc2 : wr.cell? ⟨w2.heap.size, 2, none⟩ = some (.slice a1 n.acl.length f1) := by rw [cell_of_row _ _ _ _ _ _ HR.out.node]; rfl
            by_cases hlt : k < n.acl.length
            · obtain ⟨g, cur, ed, hgr, hgs, hov⟩ := HR.out.put2 HSW.out (fun g hg => by have := HG2.out g hg; exact ⟨by omega, this.2⟩) hzX rfl HAP.out (show k * 3 < n.acl.length * 3 by omega) (.int .i32 (-5))
              subst ed
              have HOV6 := Lib.hid hov
              have HGR := Lib.hid hgr
              clear hov hgr
              go_wp2_with (refine wpList_store_in rfl 21 (.tmp 81) (.const (.int .i32 (-5))) rfl g (k * 3) (.int .i32 (-5)) rfl rfl (one_int _ _) 129 cur HGR.out (show k * 3 + 1 ≤ cur.size from hgs) infoI32c _ rfl ?_)
              go_roundw
              case rel => exact ⟨k + 1, by omega, by go_num, by have h := HOV6.out; simp only [List.append_assoc, List.singleton_append] at h; exact h⟩
              case measure => simp [intOf]; omega
            · obtain rfl : k = n.acl.length := by omega
              obtain ⟨S', R', h7, _, _⟩ := id HR.out.aft
              have hl7 := h7.well.len
              have CL1 := Lib.hid (like_any S' wr bt br _ (K + 1) h7.tree h7.ref.rt h7.well.clo pp hpp (by omega))
              have CL2 := Lib.hid fun W (h : Ext wr W) => like_any S' W bt br _ (K + 1) (h7.tree.ext h) ((h7.ref.ext h).rt) h7.well.clo n.path hps (by omega)
              have hp1 : wr.cell? ⟨w.heap.size, 1, none⟩ = some (.string pp) := by rw [cell_of_row _ _ _ _ _ _ HR.out.box]; rfl
              have hp2 : wr.cell? ⟨w.heap.size, 2, none⟩ = some (.string n.path) := by rw [cell_of_row _ _ _ _ _ _ HR.out.box]; rfl
              clear h7 hl7 hlt hk
              go_wp2_with fail
              refine CL1.out.mono ?_
              rintro e W8 ⟨rfl, hE8⟩
              have hE8 : Ext wr W8 := hE8
              have C2 := Lib.hid (CL2.out W8 hE8)
              have hp28 := cellP hE8 hp2
              have HA8 := Lib.hid (HR.out.aft.ext hE8)
              clear CL1 CL2 hE8 hp1 hp2
              go_wp2_with fail
              refine C2.out.mono ?_
              rintro e W9 ⟨rfl, hE9⟩
              have HFIN := Lib.hid ((HA8.out.ext hE9).base hzWw)
              clear C2 hE9 hp28
              go_wp2
              go_ret
              exact ⟨rfl, HFIN.out⟩
  have f2 : (kk == 2) = false := by simpa using hk2
  by_cases hk3 : kk = 3
  · have f3 : (kk == 3) = true := by simpa using hk3
    have HMM := Lib.hid (show opM M ⟨kk, pp, n⟩ = remM M pp by unfold opM; rw [if_neg hk2, if_pos hk3])
    clear hk2 hk3
    obtain ⟨er, her⟩ : ∃ er, er = remE M pp := ⟨_, rfl⟩
    have HEE := Lib.hid her.symm
    have her2 : (er != er) = false := by simp
    clear her
    go_wp2_with (refine wpList_store_row rfl 44 (.tmp 7) (.tmp 14) rfl w2.heap.size _ rfl rfl 44 _ HNEW.out sizeNd rfl (cells_node n d1 a1 _ _ e1 f1) ?_; rw [HSET.out])
    refine wp_region_P (by kernel_rfl) (region_state_vals 95 (PG7 3 7 B S R w X bt br K M (opM M ⟨kk, pp, n⟩)) (by unfold PG7; simp only [Bool.false_eq_true, if_false]; exact Ext.drew _) [.pointer (some ⟨bt, 0, none⟩), .pointer (some ⟨w.heap.size, 1, none⟩), .string pp, .int .i64 er, .pointer (some ⟨br, 0, none⟩), .pointer (some ⟨w.heap.size, 1, none⟩), .string pp, .int .i64 er, .int .i64 er, .int .i64 er] rfl (by decide) rfl ?duties ?rest)
    case duties =>
      refine ⟨?_, ?_, ?_, ?_, ?_, ?_, ?_, ?_, ?_, ?_, trivial⟩
      · refine dutyS_rd (j2 := 7) 4 (by kernel_rfl) (PG7.ext (by decide) (by decide)) fun d a W hj hG hF hA => ?_
        have x1 := hF.slot 0 _ (by decide) rfl
        exact wp_value (w' := W) (v := .pointer (some ⟨bt, 0, none⟩)) (by simp only [execOp, x1]; simp [go_sem]) ⟨_, rfl, rfl, Ext.refl _⟩
      · refine dutyS_rd (j2 := 7) 4 (by kernel_rfl) (PG7.ext (by decide) (by decide)) fun d a W hj hG hF hA => ?_
        have x1 := hF.slot 5 _ (by decide) rfl
        exact wp_value (w' := W) (v := .pointer (some ⟨w.heap.size, 1, none⟩)) (by simp only [execOp, x1]; simp [go_sem]) ⟨_, rfl, rfl, Ext.refl _⟩
      · refine dutyS_rd (j2 := 7) 4 (by kernel_rfl) (PG7.ext (by decide) (by decide)) fun d a W hj hG hF hA => ?_
        have hb0 : W.heap[w.heap.size]? = some (.cells (opC kk pp n (.slice da n.data.length dc) (.slice aa n.acl.length ac)) 46 (0, 0)) := ((hG.chg hj).same _ (Array.getElem?_eq_some_iff.1 HBX.out).1 (fun hs => by have := HSW.out w.heap.size (.inl hs); omega)).trans HBX.out
        have x1 := hA.val 1 36 rfl rfl ⟨⟨1, .data⟩, by simp, rfl, rfl⟩ rfl
        exact wp_value (ex_cell rfl _ _ x1 (show W.cell? ⟨w.heap.size, 1, none⟩ = some (.string pp) by rw [cell_of_row _ _ _ _ _ _ hb0]; rfl) rfl Tryz.underlying9) ⟨_, rfl, rfl, Ext.refl _⟩
      · intro d a W hdi hcl _ hG hF hA
        have x1 := hA.val 0 35 rfl rfl ⟨⟨0, .data⟩, by simp, rfl, rfl⟩ rfl
        have x2 := hA.val 2 37 rfl rfl ⟨⟨2, .data⟩, by simp, rfl, rfl⟩ rfl
        have hj2 : d 7 = false := by
          cases hq : d 7 with
          | false => rfl
          | true => have := hcl 2 7 3 (by kernel_rfl) hq; rw [hdi] at this; cases this
        unfold PG7 at hG
        simp only [hj2, hdi, Bool.false_eq_true, if_false] at hG
        refine wp_enter (ex_call rfl (enters_f Tryz.func72 (by kernel_rfl) rfl)) (by simp only [List.map_toArray, List.map_cons, List.map_nil, x1, x2]; exact rem_any S W bt M K ((H2X.out.ext hG).tree) pp hpp (by omega)) ?_
        intro e W' hT
        have he := hT.1
        subst he
        refine ⟨_, rfl, _, by rw [HEE.out], rfl, ?_⟩
        show PG7 3 7 _ _ _ _ _ _ _ _ _ _ (fun k => d k || k == 3) W'
        unfold PG7
        simp only [hj2, beq_self_eq_true, Bool.or_true, if_true, (by decide : ((7 : Nat) == 3) = false), Bool.or_false, Bool.false_eq_true, if_false]
        rw [HMM.out]
        exact H2X.out.mid hG hT (by omega)
      · refine dutyS_rd (j2 := 7) 4 (by kernel_rfl) (PG7.ext (by decide) (by decide)) fun d a W hj hG hF hA => ?_
        have x1 := hF.slot 1 _ (by decide) rfl
        exact wp_value (w' := W) (v := .pointer (some ⟨br, 0, none⟩)) (by simp only [execOp, x1]; simp [go_sem]) ⟨_, rfl, rfl, Ext.refl _⟩
      · refine dutyS_rd (j2 := 7) 4 (by kernel_rfl) (PG7.ext (by decide) (by decide)) fun d a W hj hG hF hA => ?_
        have x1 := hF.slot 5 _ (by decide) rfl
        exact wp_value (w' := W) (v := .pointer (some ⟨w.heap.size, 1, none⟩)) (by simp only [execOp, x1]; simp [go_sem]) ⟨_, rfl, rfl, Ext.refl _⟩
      · refine dutyS_rd (j2 := 7) 4 (by kernel_rfl) (PG7.ext (by decide) (by decide)) fun d a W hj hG hF hA => ?_
        have hb0 : W.heap[w.heap.size]? = some (.cells (opC kk pp n (.slice da n.data.length dc) (.slice aa n.acl.length ac)) 46 (0, 0)) := ((hG.chg hj).same _ (Array.getElem?_eq_some_iff.1 HBX.out).1 (fun hs => by have := HSW.out w.heap.size (.inl hs); omega)).trans HBX.out
        have x1 := hA.val 5 40 rfl rfl ⟨⟨5, .data⟩, by simp, rfl, rfl⟩ rfl
        exact wp_value (ex_cell rfl _ _ x1 (show W.cell? ⟨w.heap.size, 1, none⟩ = some (.string pp) by rw [cell_of_row _ _ _ _ _ _ hb0]; rfl) rfl Tryz.underlying9) ⟨_, rfl, rfl, Ext.refl _⟩
      · intro d a W hdi hcl hpre hG hF hA
        have x1 := hA.val 4 39 rfl rfl ⟨⟨4, .data⟩, by simp, rfl, rfl⟩ rfl
        have x2 := hA.val 6 41 rfl rfl ⟨⟨6, .data⟩, by simp, rfl, rfl⟩ rfl
        have hj1 : d 3 = true := hpre ⟨3, .chain⟩ (by simp) rfl
        unfold PG7 at hG
        simp only [hj1, hdi, Bool.false_eq_true, if_false, if_true] at hG
        obtain ⟨S', hm1, hm2, hm3, hm4⟩ := id hG
        have hBel : Below B X W := hm4.below (fun k hk => HLOW.out k (.inl hk)) hBX
        refine wp_enter (ex_call rfl (enters_f Tryz.func77 (by kernel_rfl) rfl)) (by simp only [List.map_toArray, List.map_cons, List.map_nil, x1, x2]; exact rrem_s R W br M hm2 HM.out pp hpp (by omega)) ?_
        intro e W' hT
        have he := hT.1
        subst he
        refine ⟨_, rfl, _, by rw [HEE.out], rfl, ?_⟩
        show PG7 3 7 _ _ _ _ _ _ _ _ _ _ (fun k => d k || k == 7) W'
        unfold PG7
        simp only [beq_self_eq_true, Bool.or_true, if_true]
        rw [← HMM.out] at hT
        exact Mid7.aft H2X.out HEW.out hG hT (HWO.out _ rfl)
      · refine dutyS_ext (PG7.ext (by decide) (by decide)) fun d a W hG hF hA => ?_
        have x1 := hA.val 3 38 rfl rfl ⟨⟨3, .data⟩, by simp, rfl, rfl⟩ rfl
        exact wp_value (w' := W) (v := .int .i64 er) (by simp only [execOp, x1]; simp [go_sem]) ⟨_, rfl, rfl, Ext.refl _⟩
      · refine dutyS_ext (PG7.ext (by decide) (by decide)) fun d a W hG hF hA => ?_
        have x1 := hA.val 7 42 rfl rfl ⟨⟨7, .data⟩, by simp, rfl, rfl⟩ rfl
        exact wp_value (w' := W) (v := .int .i64 er) (by simp only [execOp, x1]; simp [go_sem]) ⟨_, rfl, rfl, Ext.refl _⟩
    case rest =>
      intro d W4 hdn hG4
      unfold PG7 at hG4
      rw [if_pos (hdn 7 (by decide))] at hG4
      obtain ⟨hAF, hCX⟩ := hG4
      have HAF := Lib.hid hAF
      have HCX := Lib.hid hCX
      clear hAF hCX hdn
      simp only [filled, List.take_succ_cons, List.take_zero, List.zip_cons_cons, List.zip_nil_left, List.foldl_cons, List.foldl_nil, Act.put, List.setIfInBounds_toArray, List.set_cons_succ, List.set_cons_zero, Exit.inBlock, Exit.then]
      rename_i hK
      refine hK _ _ ?_
      clear hK
      have hs4 : ∀ g, w.heap.size ≤ g → g < X.heap.size → W4.heap[g]? = X.heap[g]? := fun g h1 h2 => HCX.out.same g h2 fun hs => by
        have := HSW.out g (hs.elim .inl fun e => .inr (.inr e))
        omega
      have hBel : Below B X W4 := HCX.out.below HLOW.out hBX
      have hb0 := (hs4 w.heap.size (Nat.le_refl _) (by omega)).trans HBX.out
      have hb7 := (hs4 w2.heap.size hzw2 hzX).trans HB7.out
      have ho1 := own_move (w' := W4) HO1.out (fun g h1 h2 => hs4 g h1 h2) (Nat.le_refl _)
      have ho2 := own_move (w' := W4) HO2.out (fun g h1 h2 => hs4 g h1 h2) (Nat.le_refl _)
      have CS := Lib.hid (rsame_self n d1 a1 da aa e1 f1 dc ac W4 HF.out (cells_of_row ho1) (cells_of_row ho2) (hDB W4 hBel) (hAB W4 hBel))
      have HOV := Lib.hid (show Ovr B S R w X bt br (K + 1) (opM M ⟨kk, pp, n⟩) w2.heap.size w.heap.size (opC kk pp n (.slice da n.data.length dc) (.slice aa n.acl.length ac)) n d1 a1 e1 f1 0 W4 from ⟨HAF.out, hb0, hb7, ⟨_, ho1, rfl⟩, ⟨_, ho2⟩⟩)
      have HB74 := Lib.hid hb7
      have HOP4 := Lib.hid (HOPN.out W4 hb0)
      unfold ndC at HB74 HOP4 CS
      clear hs4 hBel hb0 hb7 ho1 ho2 HAF HCX
      go_wp2_with (first | (refine wpList_load_row_g rfl 44 (.tmp 7) rfl w2.heap.size rfl 44 _ (0, 0) _ HB74.out Tryz.underlying44 rfl sizeNd ?_) | (refine wpList_load_at_g rfl 44 (.tmp 48) rfl _ rfl _ _ HOP4.out Tryz.underlying44 rfl sizeNd ?_))
      refine CS.out.mono ?_
      rintro e W5 ⟨rfl, hE5⟩
      have HOV5 := Lib.hid (HOV.out.ext hE5)
      clear CS hE5 HOV HB74 HOP4
      go_wp2
      go_loopw [10] (fun i wr => ∃ k : Nat, k ≤ n.data.length ∧ i = .int .i64 k ∧ Hid (Ovr B S R w X bt br (K + 1) (opM M ⟨kk, pp, n⟩) w2.heap.size w.heap.size (opC kk pp n (.slice da n.data.length dc) (.slice aa n.acl.length ac)) n d1 a1 e1 f1 k wr)) (fun i _ => n.data.length - (intOf i).toNat)
      case atStart => exact ⟨0, Nat.zero_le _, rfl, HOV5.out⟩
      case round =>
        obtain ⟨k, hk, rfl, HR⟩ := hrel
        have hc1 : wr.cell? ⟨w2.heap.size, 1, none⟩ = some (.slice d1 n.data.length e1) := by rw [cell_of_row _ _ _ _ _ _ HR.out.node]; rfl
        by_cases hlt : k < n.data.length
        · obtain ⟨g, cur, ed, hgr, hgs, hcd, -⟩ := HR.out.put1 HSW.out (fun g hg => by have := HG1.out g hg; exact ⟨by omega, this.2⟩) hzX rfl HAP.out hlt undef
          have hP := fun W (hE : Ext wr W) => (HR.out.ext hE).put1 HSW.out (fun g hg => by have := HG1.out g hg; exact ⟨by omega, this.2⟩) hzX rfl HAP.out hlt (.int .u8 (bits .xor .u8 (n.data[k]).toNat 85))
          subst ed
          have HP := Lib.hid hP
          generalize n.data[k] = x at *
          have hcd : wr.cell? ⟨g, k, none⟩ = some (.int .u8 x.toNat) := hcd
          clear hP
          go_wp2
          refine wp_region_P (by kernel_rfl) (region_store_vals 95 [.pointer (some ⟨w2.heap.size, 1, none⟩), .slice (some ⟨g, 0, none⟩) n.data.length e1, .int .i64 k, .pointer (some ⟨w2.heap.size, 1, none⟩), .slice (some ⟨g, 0, none⟩) n.data.length e1, .int .i64 k, .pointer (some ⟨g, k, none⟩), .int .u8 x.toNat, .int .u8 (bits .xor .u8 x.toNat 85), .pointer (some ⟨g, k, none⟩)] 10 _ rfl rfl rfl rfl rfl (by decide) rfl ?duties7 ?last7)
          case duties7 =>
            refine ⟨?_, ?_, ?_, ?_, ?_, ?_, ?_, ?_, ?_, ?_, trivial⟩
            · refine duty_free rfl fun a w' hE hF hA => ?_
              have x1 := hF.slot 7 _ (by decide) rfl
              exact wp_value (w' := w') (v := .pointer (some ⟨w2.heap.size, 1, none⟩)) (by simp only [execOp, x1]; simp [go_sem]) ⟨_, rfl, rfl, Ext.refl _⟩
            · refine duty_free rfl fun a w' hE hF hA => ?_
              have x1 := hA.val 0 60 rfl rfl ⟨⟨0, .data⟩, by simp, rfl, rfl⟩ rfl
              exact wp_value (ex_cell rfl _ _ x1 ((hE.cell (World.block_lt_of_cell? _ _ hc1)).trans hc1) rfl Tryz.underlying41) ⟨_, rfl, rfl, Ext.refl _⟩
            · refine duty_free rfl fun a w' hE hF hA => ?_
              have x1 := hF.slot 10 _ (by decide) rfl
              exact wp_value (w' := w') (v := .int .i64 k) (by simp only [execOp, x1]; simp [go_sem]) ⟨_, rfl, rfl, Ext.refl _⟩
            · refine duty_free rfl fun a w' hE hF hA => ?_
              have x1 := hF.slot 7 _ (by decide) rfl
              exact wp_value (w' := w') (v := .pointer (some ⟨w2.heap.size, 1, none⟩)) (by simp only [execOp, x1]; simp [go_sem]) ⟨_, rfl, rfl, Ext.refl _⟩
            · refine duty_free rfl fun a w' hE hF hA => ?_
              have x1 := hA.val 3 63 rfl rfl ⟨⟨3, .data⟩, by simp, rfl, rfl⟩ rfl
              exact wp_value (ex_cell rfl _ _ x1 ((hE.cell (World.block_lt_of_cell? _ _ hc1)).trans hc1) rfl Tryz.underlying41) ⟨_, rfl, rfl, Ext.refl _⟩
            · refine duty_free rfl fun a w' hE hF hA => ?_
              have x1 := hF.slot 10 _ (by decide) rfl
              exact wp_value (w' := w') (v := .int .i64 k) (by simp only [execOp, x1]; simp [go_sem]) ⟨_, rfl, rfl, Ext.refl _⟩
            · refine duty_free rfl fun a w' hE hF hA => ?_
              have x1 := hA.val 4 64 rfl rfl ⟨⟨4, .data⟩, by simp, rfl, rfl⟩ rfl
              have x2 := hA.val 5 65 rfl rfl ⟨⟨5, .data⟩, by simp, rfl, rfl⟩ rfl
              exact wp_value (w' := w') (v := .pointer (some ⟨g, k, none⟩)) (by simp only [execOp, x1, x2]; simp [go_sem, hlt]) ⟨_, rfl, rfl, Ext.refl _⟩
            · refine duty_free rfl fun a w' hE hF hA => ?_
              have x1 := hA.val 6 66 rfl rfl ⟨⟨6, .data⟩, by simp, rfl, rfl⟩ rfl
              exact wp_value (ex_cell rfl _ _ x1 ((hE.cell (World.block_lt_of_cell? _ _ hcd)).trans hcd) rfl Tryz.underlying5) ⟨_, rfl, rfl, Ext.refl _⟩
            · refine duty_free rfl fun a w' hE hF hA => ?_
              have x1 := hA.val 7 67 rfl rfl ⟨⟨7, .data⟩, by simp, rfl, rfl⟩ rfl
              exact wp_value (w' := w') (v := .int .u8 (bits .xor .u8 x.toNat 85)) (by simp only [execOp, x1]; simp [go_sem]) ⟨_, rfl, rfl, Ext.refl _⟩
            · refine duty_free rfl fun a w' hE hF hA => ?_
              have x1 := hA.val 1 61 rfl rfl ⟨⟨1, .data⟩, by simp, rfl, rfl⟩ rfl
              have x2 := hA.val 2 62 rfl rfl ⟨⟨2, .data⟩, by simp, rfl, rfl⟩ rfl
              exact wp_value (w' := w') (v := .pointer (some ⟨g, k, none⟩)) (by simp only [execOp, x1, x2]; simp [go_sem, hlt]) ⟨_, rfl, rfl, Ext.refl _⟩
          case last7 =>
            intro W6 hE6
            simp only [filled, List.take_succ_cons, List.take_zero, List.zip_cons_cons, List.zip_nil_left, List.foldl_cons, List.foldl_nil, Act.put, List.setIfInBounds_toArray, List.set_cons_succ, List.set_cons_zero]
            obtain ⟨g', cur6, eg, hg6, hs6, -, hov6⟩ := HP.out W6 hE6
            obtain rfl : g = g' := by simpa using eg
            have HOV6 := Lib.hid hov6
            have HG6 := Lib.hid hg6
            clear hov6 hg6 HP hcd hc1 hgr eg hE6
            refine wp_store_in 5 (.tmp 69) (.tmp 68) g k (.int .u8 (bits .xor .u8 x.toNat 85)) 5 cur6 _ HG6.out (show k + 1 ≤ cur6.size from hs6) (infoU8c _) rfl (one_int _ _) ?_ rfl rfl rfl
            simp only [Exit.inBlock, Exit.then, Act.put]
            rename_i hK
            refine hK _ _ ?_
            clear hK
            go_wp2
            go_roundw
            case rel => exact ⟨k + 1, by omega, by go_num, by have h := HOV6.out; simp only [List.append_assoc, List.singleton_append] at h; exact h⟩
            case measure => simp [intOf]; omega
        · obtain rfl : k = n.data.length := by omega
          clear HOV5 hlt hk
          go_wp2
          go_loopw [11] (fun i wr => ∃ k : Nat, k ≤ n.acl.length ∧ i = .int .i64 k ∧ Hid (Ovr B S R w X bt br (K + 1) (opM M ⟨kk, pp, n⟩) w2.heap.size w.heap.size (opC kk pp n (.slice da n.data.length dc) (.slice aa n.acl.length ac)) n d1 a1 e1 f1 n.data.length wr)) (fun i _ => n.acl.length - (intOf i).toNat)
          case atStart => exact ⟨0, Nat.zero_le _, rfl, HR.out⟩
          case round =>
            obtain ⟨k, hk, rfl, HR⟩ := hrel
            have hc2 : wr.cell? ⟨w2.heap.size, 2, none⟩ = some (.slice a1 n.acl.length f1) := by rw [cell_of_row _ _ _ _ _ _ HR.out.node]; rfl
            by_cases hlt : k < n.acl.length
            · obtain ⟨g, cur, ed, hgr, hgs, hov⟩ := HR.out.put2 HSW.out (fun g hg => by have := HG2.out g hg; exact ⟨by omega, this.2⟩) hzX rfl HAP.out (show k * 3 < n.acl.length * 3 by omega) (.int .i32 (-5))
              subst ed
              have HOV6 := Lib.hid hov
              have HGR := Lib.hid hgr
              clear hov hgr
              go_wp2_with (refine wpList_store_in rfl 21 (.tmp 81) (.const (.int .i32 (-5))) rfl g (k * 3) (.int .i32 (-5)) rfl rfl (one_int _ _) 129 cur HGR.out (show k * 3 + 1 ≤ cur.size from hgs) infoI32c _ rfl ?_)
              go_roundw
              case rel => exact ⟨k + 1, by omega, by go_num, by have h := HOV6.out; simp only [List.append_assoc, List.singleton_append] at h; exact h⟩
              case measure => simp [intOf]; omega
            · obtain rfl : k = n.acl.length := by omega
              obtain ⟨S', R', h7, _, _⟩ := id HR.out.aft
              have hl7 := h7.well.len
              have CL1 := Lib.hid (like_any S' wr bt br _ (K + 1) h7.tree h7.ref.rt h7.well.clo pp hpp (by omega))
              have CL2 := Lib.hid fun W (h : Ext wr W) => like_any S' W bt br _ (K + 1) (h7.tree.ext h) ((h7.ref.ext h).rt) h7.well.clo n.path hps (by omega)
              have hp1 : wr.cell? ⟨w.heap.size, 1, none⟩ = some (.string pp) := by rw [cell_of_row _ _ _ _ _ _ HR.out.box]; rfl
              have hp2 : wr.cell? ⟨w.heap.size, 2, none⟩ = some (.string n.path) := by rw [cell_of_row _ _ _ _ _ _ HR.out.box]; rfl
              clear h7 hl7 hlt hk
              go_wp2_with fail
              refine CL1.out.mono ?_
              rintro e W8 ⟨rfl, hE8⟩
              have hE8 : Ext wr W8 := hE8
              have C2 := Lib.hid (CL2.out W8 hE8)
              have hp28 := cellP hE8 hp2
              have HA8 := Lib.hid (HR.out.aft.ext hE8)
              clear CL1 CL2 hE8 hp1 hp2
              go_wp2_with fail
              refine C2.out.mono ?_
              rintro e W9 ⟨rfl, hE9⟩
              have HFIN := Lib.hid ((HA8.out.ext hE9).base hzWw)
              clear C2 hE9 hp28
              go_wp2
              go_ret
              exact ⟨rfl, HFIN.out⟩
  · have f3 : (kk == 3) = false := by simpa using hk3
    have HMM := Lib.hid (show opM M ⟨kk, pp, n⟩ = addM M n by unfold opM; rw [if_neg hk2, if_neg hk3])
    clear hk2 hk3
    obtain ⟨er, her⟩ : ∃ er, er = addE M n := ⟨_, rfl⟩
    have HEE := Lib.hid her.symm
    have her2 : (er != er) = false := by simp
    clear her
    go_wp2_with (refine wpList_store_row rfl 44 (.tmp 7) (.tmp 14) rfl w2.heap.size _ rfl rfl 44 _ HNEW.out sizeNd rfl (cells_node n d1 a1 _ _ e1 f1) ?_; rw [HSET.out])
    refine wp_region_P (by kernel_rfl) (region_state_vals 95 (PG7 2 6 B S R w X bt br K M (opM M ⟨kk, pp, n⟩)) (by unfold PG7; simp only [Bool.false_eq_true, if_false]; exact Ext.drew _) [.pointer (some ⟨bt, 0, none⟩), .agg (ndC n (.slice d1 n.data.length e1) (.slice a1 n.acl.length f1)), .int .i64 er, .pointer (some ⟨br, 0, none⟩), .pointer (some ⟨w.heap.size, 2, none⟩), .agg (ndC n (.slice da n.data.length dc) (.slice aa n.acl.length ac)), .int .i64 er, .int .i64 er, .int .i64 er] rfl (by decide) rfl ?duties ?rest)
    case duties =>
      refine ⟨?_, ?_, ?_, ?_, ?_, ?_, ?_, ?_, ?_, trivial⟩
      · refine dutyS_rd (j2 := 6) 4 (by kernel_rfl) (PG7.ext (by decide) (by decide)) fun d a W hj hG hF hA => ?_
        have x1 := hF.slot 0 _ (by decide) rfl
        exact wp_value (w' := W) (v := .pointer (some ⟨bt, 0, none⟩)) (by simp only [execOp, x1]; simp [go_sem]) ⟨_, rfl, rfl, Ext.refl _⟩
      · refine dutyS_rd (j2 := 6) 4 (by kernel_rfl) (PG7.ext (by decide) (by decide)) fun d a W hj hG hF hA => ?_
        have x1 := hF.slot 7 _ (by decide) rfl
        have hb7 := ((hG.chg hj).same _ (Array.getElem?_eq_some_iff.1 HB7.out).1 (fun hs => by have := HSW.out w2.heap.size (.inl hs); omega)).trans HB7.out
        exact wp_value (ex_load_row rfl _ x1 44 _ (0, 0) _ hb7 Tryz.underlying44 rfl sizeNd) ⟨_, rfl, rfl, Ext.refl _⟩
      · intro d a W hdi hcl _ hG hF hA
        have x1 := hA.val 0 17 rfl rfl ⟨⟨0, .data⟩, by simp, rfl, rfl⟩ rfl
        have x2 := hA.val 1 18 rfl rfl ⟨⟨1, .data⟩, by simp, rfl, rfl⟩ rfl
        have hj2 : d 6 = false := by
          cases hq : d 6 with
          | false => rfl
          | true => have := hcl 2 6 2 (by kernel_rfl) hq; rw [hdi] at this; cases this
        unfold PG7 at hG
        simp only [hj2, hdi, Bool.false_eq_true, if_false] at hG
        refine wp_enter (ex_call rfl (enters_f Tryz.func70 (by kernel_rfl) rfl)) (by simp only [List.map_toArray, List.map_cons, List.map_nil, x1, x2]; exact add_any S W bt M K ((H2X.out.ext hG).tree) n d1 a1 e1 f1 (HTX.out.below (hG.mono hBX) hB2) HF.out (by omega) (HDX.out.ext hG) (HAX.out.ext hG)) ?_
        intro e W' hT
        have he := hT.1
        subst he
        refine ⟨_, rfl, _, by rw [HEE.out], rfl, ?_⟩
        show PG7 2 6 _ _ _ _ _ _ _ _ _ _ (fun k => d k || k == 2) W'
        unfold PG7
        simp only [hj2, beq_self_eq_true, Bool.or_true, if_true, (by decide : ((6 : Nat) == 2) = false), Bool.or_false, Bool.false_eq_true, if_false]
        rw [HMM.out]
        exact H2X.out.mid hG hT (by omega)
      · refine dutyS_rd (j2 := 6) 4 (by kernel_rfl) (PG7.ext (by decide) (by decide)) fun d a W hj hG hF hA => ?_
        have x1 := hF.slot 1 _ (by decide) rfl
        exact wp_value (w' := W) (v := .pointer (some ⟨br, 0, none⟩)) (by simp only [execOp, x1]; simp [go_sem]) ⟨_, rfl, rfl, Ext.refl _⟩
      · refine dutyS_rd (j2 := 6) 4 (by kernel_rfl) (PG7.ext (by decide) (by decide)) fun d a W hj hG hF hA => ?_
        have x1 := hF.slot 5 _ (by decide) rfl
        exact wp_value (w' := W) (v := .pointer (some ⟨w.heap.size, 2, none⟩)) (by simp only [execOp, x1]; simp [go_sem]) ⟨_, rfl, rfl, Ext.refl _⟩
      · refine dutyS_rd (j2 := 6) 4 (by kernel_rfl) (PG7.ext (by decide) (by decide)) fun d a W hj hG hF hA => ?_
        have hb0 : W.heap[w.heap.size]? = some (.cells (opC kk pp n (.slice da n.data.length dc) (.slice aa n.acl.length ac)) 46 (0, 0)) := ((hG.chg hj).same _ (Array.getElem?_eq_some_iff.1 HBX.out).1 (fun hs => by have := HSW.out w.heap.size (.inl hs); omega)).trans HBX.out
        have x1 := hA.val 4 21 rfl rfl ⟨⟨4, .data⟩, by simp, rfl, rfl⟩ rfl
        exact wp_value (ex_load_at rfl _ x1 (ndC n (.slice da n.data.length dc) (.slice aa n.acl.length ac)) (HOPN.out W hb0) Tryz.underlying44 rfl sizeNd) ⟨_, rfl, rfl, Ext.refl _⟩
      · intro d a W hdi hcl hpre hG hF hA
        have x1 := hA.val 3 20 rfl rfl ⟨⟨3, .data⟩, by simp, rfl, rfl⟩ rfl
        have x2 := hA.val 5 22 rfl rfl ⟨⟨5, .data⟩, by simp, rfl, rfl⟩ rfl
        have hj1 : d 2 = true := hpre ⟨2, .chain⟩ (by simp) rfl
        unfold PG7 at hG
        simp only [hj1, hdi, Bool.false_eq_true, if_false, if_true] at hG
        obtain ⟨S', hm1, hm2, hm3, hm4⟩ := id hG
        have hBel : Below B X W := hm4.below (fun k hk => HLOW.out k (.inl hk)) hBX
        refine wp_enter (ex_call rfl (enters_f Tryz.func78 (by kernel_rfl) rfl)) (by simp only [List.map_toArray, List.map_cons, List.map_nil, x1, x2]; exact radd_s R W br M hm2 HM.out n da aa dc ac (HTX.out.below hBel hB2) HF.out (by omega) (hDB W hBel) (hAB W hBel)) ?_
        intro e W' hT
        have he := hT.1
        subst he
        refine ⟨_, rfl, _, by rw [HEE.out], rfl, ?_⟩
        show PG7 2 6 _ _ _ _ _ _ _ _ _ _ (fun k => d k || k == 6) W'
        unfold PG7
        simp only [beq_self_eq_true, Bool.or_true, if_true]
        rw [← HMM.out] at hT
        exact Mid7.aft H2X.out HEW.out hG hT (HWO.out _ rfl)
      · refine dutyS_ext (PG7.ext (by decide) (by decide)) fun d a W hG hF hA => ?_
        have x1 := hA.val 2 19 rfl rfl ⟨⟨2, .data⟩, by simp, rfl, rfl⟩ rfl
        exact wp_value (w' := W) (v := .int .i64 er) (by simp only [execOp, x1]; simp [go_sem]) ⟨_, rfl, rfl, Ext.refl _⟩
      · refine dutyS_ext (PG7.ext (by decide) (by decide)) fun d a W hG hF hA => ?_
        have x1 := hA.val 6 23 rfl rfl ⟨⟨6, .data⟩, by simp, rfl, rfl⟩ rfl
        exact wp_value (w' := W) (v := .int .i64 er) (by simp only [execOp, x1]; simp [go_sem]) ⟨_, rfl, rfl, Ext.refl _⟩
    case rest =>
      intro d W4 hdn hG4
      unfold PG7 at hG4
      rw [if_pos (hdn 6 (by decide))] at hG4
      obtain ⟨hAF, hCX⟩ := hG4
      have HAF := Lib.hid hAF
      have HCX := Lib.hid hCX
      clear hAF hCX hdn
      simp only [filled, List.take_succ_cons, List.take_zero, List.zip_cons_cons, List.zip_nil_left, List.foldl_cons, List.foldl_nil, Act.put, List.setIfInBounds_toArray, List.set_cons_succ, List.set_cons_zero, Exit.inBlock, Exit.then]
      rename_i hK
      refine hK _ _ ?_
      clear hK
      have hs4 : ∀ g, w.heap.size ≤ g → g < X.heap.size → W4.heap[g]? = X.heap[g]? := fun g h1 h2 => HCX.out.same g h2 fun hs => by
        have := HSW.out g (hs.elim .inl fun e => .inr (.inr e))
        omega
      have hBel : Below B X W4 := HCX.out.below HLOW.out hBX
      have hb0 := (hs4 w.heap.size (Nat.le_refl _) (by omega)).trans HBX.out
      have hb7 := (hs4 w2.heap.size hzw2 hzX).trans HB7.out
      have ho1 := own_move (w' := W4) HO1.out (fun g h1 h2 => hs4 g h1 h2) (Nat.le_refl _)
      have ho2 := own_move (w' := W4) HO2.out (fun g h1 h2 => hs4 g h1 h2) (Nat.le_refl _)
      have CS := Lib.hid (rsame_self n d1 a1 da aa e1 f1 dc ac W4 HF.out (cells_of_row ho1) (cells_of_row ho2) (hDB W4 hBel) (hAB W4 hBel))
      have HOV := Lib.hid (show Ovr B S R w X bt br (K + 1) (opM M ⟨kk, pp, n⟩) w2.heap.size w.heap.size (opC kk pp n (.slice da n.data.length dc) (.slice aa n.acl.length ac)) n d1 a1 e1 f1 0 W4 from ⟨HAF.out, hb0, hb7, ⟨_, ho1, rfl⟩, ⟨_, ho2⟩⟩)
      have HB74 := Lib.hid hb7
      have HOP4 := Lib.hid (HOPN.out W4 hb0)
      unfold ndC at HB74 HOP4 CS
      clear hs4 hBel hb0 hb7 ho1 ho2 HAF HCX
      go_wp2_with (first | (refine wpList_load_row_g rfl 44 (.tmp 7) rfl w2.heap.size rfl 44 _ (0, 0) _ HB74.out Tryz.underlying44 rfl sizeNd ?_) | (refine wpList_load_at_g rfl 44 (.tmp 48) rfl _ rfl _ _ HOP4.out Tryz.underlying44 rfl sizeNd ?_))
      refine CS.out.mono ?_
      rintro e W5 ⟨rfl, hE5⟩
      have HOV5 := Lib.hid (HOV.out.ext hE5)
      clear CS hE5 HOV HB74 HOP4
      go_wp2
      go_loopw [10] (fun i wr => ∃ k : Nat, k ≤ n.data.length ∧ i = .int .i64 k ∧ Hid (Ovr B S R w X bt br (K + 1) (opM M ⟨kk, pp, n⟩) w2.heap.size w.heap.size (opC kk pp n (.slice da n.data.length dc) (.slice aa n.acl.length ac)) n d1 a1 e1 f1 k wr)) (fun i _ => n.data.length - (intOf i).toNat)
      case atStart => exact ⟨0, Nat.zero_le _, rfl, HOV5.out⟩
      case round =>
        obtain ⟨k, hk, rfl, HR⟩ := hrel
        have hc1 : wr.cell? ⟨w2.heap.size, 1, none⟩ = some (.slice d1 n.data.length e1) := by rw [cell_of_row _ _ _ _ _ _ HR.out.node]; rfl
        by_cases hlt : k < n.data.length
        · obtain ⟨g, cur, ed, hgr, hgs, hcd, -⟩ := HR.out.put1 HSW.out (fun g hg => by have := HG1.out g hg; exact ⟨by omega, this.2⟩) hzX rfl HAP.out hlt undef
          have hP := fun W (hE : Ext wr W) => (HR.out.ext hE).put1 HSW.out (fun g hg => by have := HG1.out g hg; exact ⟨by omega, this.2⟩) hzX rfl HAP.out hlt (.int .u8 (bits .xor .u8 (n.data[k]).toNat 85))
          subst ed
          have HP := Lib.hid hP
          generalize n.data[k] = x at *
          have hcd : wr.cell? ⟨g, k, none⟩ = some (.int .u8 x.toNat) := hcd
          clear hP
          go_wp2
          refine wp_region_P (by kernel_rfl) (region_store_vals 95 [.pointer (some ⟨w2.heap.size, 1, none⟩), .slice (some ⟨g, 0, none⟩) n.data.length e1, .int .i64 k, .pointer (some ⟨w2.heap.size, 1, none⟩), .slice (some ⟨g, 0, none⟩) n.data.length e1, .int .i64 k, .pointer (some ⟨g, k, none⟩), .int .u8 x.toNat, .int .u8 (bits .xor .u8 x.toNat 85), .pointer (some ⟨g, k, none⟩)] 10 _ rfl rfl rfl rfl rfl (by decide) rfl ?duties7 ?last7)
          case duties7 =>
            refine ⟨?_, ?_, ?_, ?_, ?_, ?_, ?_, ?_, ?_, ?_, trivial⟩
            · refine duty_free rfl fun a w' hE hF hA => ?_
              have x1 := hF.slot 7 _ (by decide) rfl
              exact wp_value (w' := w') (v := .pointer (some ⟨w2.heap.size, 1, none⟩)) (by simp only [execOp, x1]; simp [go_sem]) ⟨_, rfl, rfl, Ext.refl _⟩
            · refine duty_free rfl fun a w' hE hF hA => ?_
              have x1 := hA.val 0 60 rfl rfl ⟨⟨0, .data⟩, by simp, rfl, rfl⟩ rfl
              exact wp_value (ex_cell rfl _ _ x1 ((hE.cell (World.block_lt_of_cell? _ _ hc1)).trans hc1) rfl Tryz.underlying41) ⟨_, rfl, rfl, Ext.refl _⟩
            · refine duty_free rfl fun a w' hE hF hA => ?_
              have x1 := hF.slot 10 _ (by decide) rfl
              exact wp_value (w' := w') (v := .int .i64 k) (by simp only [execOp, x1]; simp [go_sem]) ⟨_, rfl, rfl, Ext.refl _⟩
            · refine duty_free rfl fun a w' hE hF hA => ?_
              have x1 := hF.slot 7 _ (by decide) rfl
              exact wp_value (w' := w') (v := .pointer (some ⟨w2.heap.size, 1, none⟩)) (by simp only [execOp, x1]; simp [go_sem]) ⟨_, rfl, rfl, Ext.refl _⟩
            · refine duty_free rfl fun a w' hE hF hA => ?_
              have x1 := hA.val 3 63 rfl rfl ⟨⟨3, .data⟩, by simp, rfl, rfl⟩ rfl
              exact wp_value (ex_cell rfl _ _ x1 ((hE.cell (World.block_lt_of_cell? _ _ hc1)).trans hc1) rfl Tryz.underlying41) ⟨_, rfl, rfl, Ext.refl _⟩
            · refine duty_free rfl fun a w' hE hF hA => ?_
              have x1 := hF.slot 10 _ (by decide) rfl
              exact wp_value (w' := w') (v := .int .i64 k) (by simp only [execOp, x1]; simp [go_sem]) ⟨_, rfl, rfl, Ext.refl _⟩
            · refine duty_free rfl fun a w' hE hF hA => ?_
              have x1 := hA.val 4 64 rfl rfl ⟨⟨4, .data⟩, by simp, rfl, rfl⟩ rfl
              have x2 := hA.val 5 65 rfl rfl ⟨⟨5, .data⟩, by simp, rfl, rfl⟩ rfl
              exact wp_value (w' := w') (v := .pointer (some ⟨g, k, none⟩)) (by simp only [execOp, x1, x2]; simp [go_sem, hlt]) ⟨_, rfl, rfl, Ext.refl _⟩
            · refine duty_free rfl fun a w' hE hF hA => ?_
              have x1 := hA.val 6 66 rfl rfl ⟨⟨6, .data⟩, by simp, rfl, rfl⟩ rfl
              exact wp_value (ex_cell rfl _ _ x1 ((hE.cell (World.block_lt_of_cell? _ _ hcd)).trans hcd) rfl Tryz.underlying5) ⟨_, rfl, rfl, Ext.refl _⟩
            · refine duty_free rfl fun a w' hE hF hA => ?_
              have x1 := hA.val 7 67 rfl rfl ⟨⟨7, .data⟩, by simp, rfl, rfl⟩ rfl
              exact wp_value (w' := w') (v := .int .u8 (bits .xor .u8 x.toNat 85)) (by simp only [execOp, x1]; simp [go_sem]) ⟨_, rfl, rfl, Ext.refl _⟩
            · refine duty_free rfl fun a w' hE hF hA => ?_
              have x1 := hA.val 1 61 rfl rfl ⟨⟨1, .data⟩, by simp, rfl, rfl⟩ rfl
              have x2 := hA.val 2 62 rfl rfl ⟨⟨2, .data⟩, by simp, rfl, rfl⟩ rfl
              exact wp_value (w' := w') (v := .pointer (some ⟨g, k, none⟩)) (by simp only [execOp, x1, x2]; simp [go_sem, hlt]) ⟨_, rfl, rfl, Ext.refl _⟩
          case last7 =>
            intro W6 hE6
            simp only [filled, List.take_succ_cons, List.take_zero, List.zip_cons_cons, List.zip_nil_left, List.foldl_cons, List.foldl_nil, Act.put, List.setIfInBounds_toArray, List.set_cons_succ, List.set_cons_zero]
            obtain ⟨g', cur6, eg, hg6, hs6, -, hov6⟩ := HP.out W6 hE6
            obtain rfl : g = g' := by simpa using eg
            have HOV6 := Lib.hid hov6
            have HG6 := Lib.hid hg6
            clear hov6 hg6 HP hcd hc1 hgr eg hE6
            refine wp_store_in 5 (.tmp 69) (.tmp 68) g k (.int .u8 (bits .xor .u8 x.toNat 85)) 5 cur6 _ HG6.out (show k + 1 ≤ cur6.size from hs6) (infoU8c _) rfl (one_int _ _) ?_ rfl rfl rfl
            simp only [Exit.inBlock, Exit.then, Act.put]
            rename_i hK
            refine hK _ _ ?_
            clear hK
            go_wp2
            go_roundw
            case rel => exact ⟨k + 1, by omega, by go_num, by have h := HOV6.out; simp only [List.append_assoc, List.singleton_append] at h; exact h⟩
            case measure => simp [intOf]; omega
        · obtain rfl : k = n.data.length := by omega
          clear HOV5 hlt hk
          go_wp2
          go_loopw [11] (fun i wr => ∃ k : Nat, k ≤ n.acl.length ∧ i = .int .i64 k ∧ Hid (Ovr B S R w X bt br (K + 1) (opM M ⟨kk, pp, n⟩) w2.heap.size w.heap.size (opC kk pp n (.slice da n.data.length dc) (.slice aa n.acl.length ac)) n d1 a1 e1 f1 n.data.length wr)) (fun i _ => n.acl.length - (intOf i).toNat)
          case atStart => exact ⟨0, Nat.zero_le _, rfl, HR.out⟩
          case round =>
            obtain ⟨k, hk, rfl, HR⟩ := hrel
            have hc2 : wr.cell? ⟨w2.heap.size, 2, none⟩ = some (.slice a1 n.acl.length f1) := by rw [cell_of_row _ _ _ _ _ _ HR.out.node]; rfl
            by_cases hlt : k < n.acl.length
            · obtain ⟨g, cur, ed, hgr, hgs, hov⟩ := HR.out.put2 HSW.out (fun g hg => by have := HG2.out g hg; exact ⟨by omega, this.2⟩) hzX rfl HAP.out (show k * 3 < n.acl.length * 3 by omega) (.int .i32 (-5))
              subst ed
              have HOV6 := Lib.hid hov
              have HGR := Lib.hid hgr
              clear hov hgr
              go_wp2_with (refine wpList_store_in rfl 21 (.tmp 81) (.const (.int .i32 (-5))) rfl g (k * 3) (.int .i32 (-5)) rfl rfl (one_int _ _) 129 cur HGR.out (show k * 3 + 1 ≤ cur.size from hgs) infoI32c _ rfl ?_)
              go_roundw
              case rel => exact ⟨k + 1, by omega, by go_num, by have h := HOV6.out; simp only [List.append_assoc, List.singleton_append] at h; exact h⟩
              case measure => simp [intOf]; omega
            · obtain rfl : k = n.acl.length := by omega
              obtain ⟨S', R', h7, _, _⟩ := id HR.out.aft
              have hl7 := h7.well.len
              have CL1 := Lib.hid (like_any S' wr bt br _ (K + 1) h7.tree h7.ref.rt h7.well.clo pp hpp (by omega))
              have CL2 := Lib.hid fun W (h : Ext wr W) => like_any S' W bt br _ (K + 1) (h7.tree.ext h) ((h7.ref.ext h).rt) h7.well.clo n.path hps (by omega)
              have hp1 : wr.cell? ⟨w.heap.size, 1, none⟩ = some (.string pp) := by rw [cell_of_row _ _ _ _ _ _ HR.out.box]; rfl
              have hp2 : wr.cell? ⟨w.heap.size, 2, none⟩ = some (.string n.path) := by rw [cell_of_row _ _ _ _ _ _ HR.out.box]; rfl
              clear h7 hl7 hlt hk
              go_wp2_with fail
              refine CL1.out.mono ?_
              rintro e W8 ⟨rfl, hE8⟩
              have hE8 : Ext wr W8 := hE8
              have C2 := Lib.hid (CL2.out W8 hE8)
              have hp28 := cellP hE8 hp2
              have HA8 := Lib.hid (HR.out.aft.ext hE8)
              clear CL1 CL2 hE8 hp1 hp2
              go_wp2_with fail
              refine C2.out.mono ?_
              rintro e W9 ⟨rfl, hE9⟩
              have HFIN := Lib.hid ((HA8.out.ext hE9).base hzWw)
              clear C2 hE9 hp28
              go_wp2
              go_ret
              exact ⟨rfl, HFIN.out⟩
end Go.Proofs.YthinpbdbhijbgaaGreatDoor
namespace Go.Proofs.YthinpbdbhijbgaaGreatDoor
open Go.RowKit
set_option maxHeartbeats 4000000
set_option maxRecDepth 100000

/-- The nodes that the range has come to. -/
structure Laid1 (M : List (Key × Nd)) (left : Lit → Bool) (M' : List (Key × Nd)) : Prop where
  ok : MOk M'
  mem : ∀ x, x ∈ M' ↔ x ∈ M ∧ left (.string x.1) = false
theorem Laid1.step {M : List (Key × Nd)} {left : Lit → Bool} {M' : List (Key × Nd)} (h : Laid1 M left M') {n : Nd} (hn : rightN n = 0) (hm : (keyN n, n) ∈ M) (hs : MSorted M) : Laid1 M (fun z => left z && !z.sameKey (.string (keyN n))) (mput M' (keyN n) n) := by
  have hsame : ∀ k : Key, (Lit.string k).sameKey (.string (keyN n)) = (k == keyN n) := fun k => rfl
  refine ⟨h.ok.put n hn, fun x => ?_⟩
  rw [mem_mput, h.mem, hsame]
  simp only [Bool.and_eq_false_iff, Bool.not_eq_false', beq_iff_eq]
  constructor
  · rintro (rfl | ⟨⟨h1, h2⟩, h3⟩)
    · exact ⟨hm, .inr rfl⟩
    · exact ⟨h1, .inl h2⟩
  · rintro ⟨h1, h2⟩
    by_cases e : x.1 = keyN n
    · refine .inl (Prod.ext e ?_)
      have h3 : mget M x.1 = some x.2 := mget_of_mem hs h1
      rw [e, mget_of_mem hs hm] at h3
      exact (Option.some.inj h3).symm
    · exact .inr ⟨⟨h1, h2.resolve_right e⟩, e⟩
theorem Laid1.new {M : List (Key × Nd)} {left : Lit → Bool} {M' : List (Key × Nd)} (h : Laid1 M left M') {k : Key} (hl : left (.string k) = true) : mget M' k = none :=
  mget_none_of fun x hx e => by
    have := ((h.mem x).1 hx).2
    rw [e, hl] at this; cases this
theorem Laid1.done {M : List (Key × Nd)} {left : Lit → Bool} {M' : List (Key × Nd)} (h : Laid1 M left M') (hs : MSorted M) (hl : ∀ kl, left kl = false) : M' = M :=
  mem_ext_sorted h.ok.sorted hs fun x => by rw [h.mem, hl]; simp
theorem mput_len_new {M : List (Key × Nd)} {k : Key} {n : Nd} (h : mget M k = none) : (mput M k n).length = M.length + 1 := by
  unfold mput
  rw [mins_length]
  congr 1
  unfold mdel
  rw [List.filter_eq_self.2 fun x hx => by simpa using mget_none h x hx]

theorem ranges_blocks {H : Type} {P : Program} {k : TypeId} {R : Value → Option (DataW H × List MemPlace)} {w w' : World} {b r n : Nat} {D : DataW H} {left : Lit → Bool} {cnt : Nat} (h : w.ranges P k R b r n D left cnt) (hb : w'.heap[b]? = w.heap[b]?) (hr : w'.heap[r]? = w.heap[r]?) : w'.ranges P k R b r n D left cnt := by
  obtain ⟨es, clock, since, seen, c0, h1, F, hs, hD, h2, rest⟩ := h
  exact ⟨es, clock, since, seen, c0, hb.trans h1, F, hs, hD, hr.trans h2, rest⟩

def TCloneOut (M : List (Key × Nd)) (w : World) (e : Ending) (w' : World) : Prop := ∃ b, e = .returned (.pointer (some ⟨b, 0, none⟩)) ∧ TreeAt (fun k => w.heap.size ≤ k ∧ k < w'.heap.size) w' b M M.length ∧ Ext w w'

theorem tclone_any (S : Nat → Prop) (w : World) (bt : Nat) (M : List (Key × Nd)) (N : Nat) (hT : TreeAt S w bt M N) (hl : M.length < 4611686018427387904) : Calls Tryz.prog 17 #[.pointer (some ⟨bt, 0, none⟩)] w (TCloneOut M w) := by
  obtain ⟨W1, hW1⟩ : ∃ W1, W1 = emptyW w := ⟨_, rfl⟩
  have hz : W1.heap.size = w.heap.size + 1 + 1 + 1 := by rw [hW1]; exact emptyW_size w
  have hE : Ext w W1 := by rw [hW1]; exact emptyW_ext w
  have hTr : TreeAt (fun k => w.heap.size ≤ k ∧ k < W1.heap.size) W1 (w.heap.size + 1 + 1) [] 0 := by rw [hW1]; exact tree_empty w
  have hmm := @run_makeMap Tryz.prog
  have hT1 := hT.ext hE
  have hok := hT.ok
  obtain ⟨bn, bk, K, hd, hNd, hKd⟩ := hT1
  have hx := TreeAt.box hd
  obtain ⟨mm, hm, hr⟩ := hNd.ex
  have hbl : bn < w.heap.size := hT.bound bn hd.sn
  have HBD := Lib.hid hT.bound
  have HM := hm
  have HR := Lib.hid hr
  have HTR := Lib.hid hTr
  have HE := Lib.hid hE
  have HOK := Lib.hid hok
  have hrl := hr.length
  unfold Box treeC at hx
  unfold emptyW treeC at hW1
  rw [hW1] at hx HM
  have HW1 := Lib.hid hW1
  clear hm hW1 hd hNd hKd hT hr hTr hE hok
  go_enter Tryz.func17, Tryz.ntmps17
  go_wp2_with (at_range; refine wpList_range_own _ rfl _ 120 rfl 9 44 (Maps.string_keyed strT) Tryz.underlying120 Rv bn _ _ rfl HM ?_; intro w0 hrg0 hg0 hs0)
  go_frame
  rw [← HW1.out] at hrg0 hg0 hs0
  rw [hz] at hrg0 hs0
  rw [show (((w.alloc (.map #[] 0)).alloc (.map #[] 0)).alloc (.cells #[.map (some w.heap.size), .map (some (w.heap.size + 1))] 123)) = W1 from HW1.out.symm]
  have hEr : Ext W1 w0 := ⟨hg0.os, hg0.tape, hg0.output, hg0.size, fun k hk => hg0.block k hk (by simp)⟩
  have hT0 := HTR.out.ext hEr
  have HRG0 := Lib.hid hrg0
  have hz0 : w0.heap.size = w.heap.size + 1 + 1 + 1 + 1 := hs0
  have HE0 := Lib.hid (HE.out.trans hEr)
  have HT0 := Lib.hid (hT0.keep (S' := fun k => w.heap.size ≤ k ∧ k < w0.heap.size ∧ k ≠ w.heap.size + 1 + 1 + 1) (fun _ _ => rfl) (fun k hk => ⟨hk.1, by omega, by omega⟩) (fun k hk => hk.2.1) (Nat.le_refl _))
  clear hx HM hrg0 hg0 hs0 hEr hT0 HTR
  rw [hz]
  go_loopw [] (fun wr => ∃ (left : Lit → Bool) (cnt : Nat) (M' : List (Key × Nd)), wr.ranges Tryz.prog 9 Rv bn (w.heap.size + 1 + 1 + 1) mm.length (kvD mm) left cnt ∧ Hid (Laid1 M left M') ∧ Hid (TreeAt (fun k => w.heap.size ≤ k ∧ k < wr.heap.size ∧ k ≠ w.heap.size + 1 + 1 + 1) wr (w.heap.size + 1 + 1) M' M'.length) ∧ M'.length + cnt ≤ mm.length ∧ Ext w wr) (fun wr => wr.rangeLeft bn (w.heap.size + 1 + 1 + 1))
  case atStart =>
    refine ⟨_, _, [], HRG0.out, ⟨MOk.nil, fun x => ?_⟩, HT0.out, by simp [kvD, Maps.size], HE0.out⟩
    constructor
    · intro h; simp at h
    · rintro ⟨h1, h2⟩
      rw [kvD_has] at h2
      rcases HR.out.get x.1 with ⟨h3, _⟩ | ⟨y, v, _, h3, _⟩
      · exact absurd rfl (mget_none h3 x h1)
      · rw [h3] at h2; cases h2
  case round =>
    obtain ⟨left, cnt, M', hrg, HL, HT, hle, hE⟩ := hrel
    have HEr := Lib.hid hE
    clear hE HRG0 HT0 HE0
    go_wp2_with (at_next; refine wpList_next_left _ rfl _ rfl 9 strT bn (w.heap.size + 1 + 1 + 1) _ mm left cnt rfl hrg ?_ ?_)
    · intro hl0
      have hdn := HL.out.done HOK.out.sorted hl0
      have hfin : TCloneOut M w (.returned (.pointer (some ⟨w.heap.size + 1 + 1, 0, none⟩))) wr :=
        ⟨_, rfl, by
          have h := HT.out
          rw [hdn] at h
          exact h.keep (fun _ _ => rfl) (fun k hk => ⟨hk.1, hk.2.1⟩) (fun k hk => hk.2) (Nat.le_refl _), HEr.out⟩
      have HFIN := Lib.hid hfin
      clear hfin hrg hdn hl0
      go_wp2
      go_ret
      exact HFIN.out
    · intro s v w6 cnt6 hs hlf hmg hrg6 hlt6 hg6 hsz6 hen
      obtain ⟨n, hn, hv⟩ : ∃ n, mget M s.data.toList = some n ∧ NdS S W1 v n := by
        rcases HR.out.get s.data.toList with ⟨_, h2⟩ | ⟨y, u, h1, h2, h3⟩
        · rw [h2] at hmg; cases hmg
        · rw [h2] at hmg; cases hmg
          exact ⟨y, h1, h3⟩
      obtain ⟨hkey, hrt⟩ := HOK.out.at hn
      have hmem : (keyN n, n) ∈ M := by rw [← hkey]; exact mget_some_mem hn
      rw [hkey] at hlf hrg6
      have hne := HL.out.new hlf
      have HL2 := Lib.hid (HL.out.step hrt hmem HOK.out.sorted)
      obtain ⟨da, dc, aa, ac, rfl, hD, hA⟩ := hv
      have hsz := HEr.out.size
      obtain ⟨W7, hW7⟩ : ∃ W7, W7 = w6.alloc (.cells (ndC n (.slice da n.data.length dc) (.slice aa n.acl.length ac)) 44) := ⟨_, rfl⟩
      have hE7 : Ext w6 W7 := by rw [hW7]; exact Ext.alloc _ _
      have hz7 : W7.heap.size = w6.heap.size + 1 := by rw [hW7]; simp
      have hn7 : W7.heap[w6.heap.size]? = some (.cells (ndC n (.slice da n.data.length dc) (.slice aa n.acl.length ac)) 44 (0, 0)) := by rw [hW7]; exact heap_alloc_new _ _
      have hrl6 := hrg6.lt
      have h67 : ∀ k, k < w6.heap.size → W7.heap[k]? = w6.heap[k]? := fun k hk => hE7.block k hk
      have hr6 : ∀ k, k < wr.heap.size → k ≠ w.heap.size + 1 + 1 + 1 → w6.heap[k]? = wr.heap[k]? := fun k hk hne => hg6.block k hk (fun e => hne (Option.some.inj e))
      have hw7 : ∀ k, k < w.heap.size → W7.heap[k]? = W1.heap[k]? := fun k hk => (h67 k (by omega)).trans ((hr6 k (by omega) (by omega)).trans ((HEr.out.block k hk).trans (HE.out.block k hk).symm))
      have hEw7 : Ext w W7 := HEr.out.trans' ⟨hE7.os.trans hg6.os, hE7.tape.trans hg6.tape, hE7.output.trans hg6.output, by omega, fun k hk => (h67 k (by omega)).trans (hr6 k (by omega) (by omega))⟩
      have hD7 : Cells W7.heap.size W7 da (n.data.map u8v) := (hD.imp (fun _ h => h) fun b o u hb hu => (World.cell?_of_block (hw7 b (HBD.out b hb))).trans hu).cells fun b hb => by have := HBD.out b hb; omega
      have hA7 : Cells W7.heap.size W7 aa (acCs n.acl) := (hA.imp (fun _ h => h) fun b o u hb hu => (World.cell?_of_block (hw7 b (HBD.out b hb))).trans hu).cells fun b hb => by have := HBD.out b hb; omega
      have hT7 := HT.out.keep (w' := W7) (S' := fun k => w.heap.size ≤ k ∧ k < wr.heap.size ∧ k ≠ w.heap.size + 1 + 1 + 1) (fun k hk => (h67 k (by omega)).trans (hr6 k hk.2.1 hk.2.2)) (fun _ h => h) (fun k hk => by have := hk.2.1; omega) (Nat.le_refl _)
      have CL := Lib.hid (lay_any _ W7 (w.heap.size + 1 + 1) M' M'.length hT7 n da aa dc ac hrt hne (by omega) hD7 hA7)
      have hrg7 := hrg6.kept (grown_ext hE7 none) (by simp) (by simp)
      have HRG7 := Lib.hid hrg7
      have HSET := Lib.hid ((setRow_alloc w6 zeroNd (ndC n (.slice da n.data.length dc) (.slice aa n.acl.length ac)) 44).trans hW7.symm)
      have HNEW := Lib.hid (heap_alloc_new w6 (.cells zeroNd 44))
      have HN7 := Lib.hid hn7
      have HEW7 := Lib.hid hEw7
      have HLEN := Lib.hid (mput_len_new (n := n) hne)
      have HRG := Lib.hid hrg
      have HLE : Hid ((mput M' (keyN n) n).length + cnt6 ≤ mm.length) := by unfold Hid; rw [HLEN.out]; omega
      have h6a : w6.heap.size ≤ wr.heap.size := by omega
      have h6b : wr.heap.size ≤ w6.heap.size := by omega
      clear hsz6
      unfold ndC at HSET HN7 CL hen
      unfold zeroNd at HSET HNEW
      clear hrg hrg6 hrg7 hg6 hE7 hEw7 hn7 hW7 h67 hr6 hw7 hD7 hA7 hT7 hD hA hmg hn hmem hne HL
      unfold ndC
      go_wp2_with (first | (refine wpList_store_row rfl 44 (.tmp 5) (.tmp 20) rfl w6.heap.size _ rfl rfl 44 _ HNEW.out sizeNd rfl (cells_node n da aa _ _ dc ac) ?_; rw [HSET.out]) | (refine wpList_load_row rfl 44 (.tmp 5) rfl w6.heap.size rfl 44 _ (0, 0) _ HN7.out Tryz.underlying44 rfl sizeNd ?_))
      refine CL.out.mono ?_
      rintro e w8 ⟨rfl, hT8, hM8⟩
      have hz8 := hM8.size
      have hsame8 : ∀ k, k < W7.heap.size → ¬ (w.heap.size ≤ k ∧ k < wr.heap.size ∧ k ≠ w.heap.size + 1 + 1 + 1) → w8.heap[k]? = W7.heap[k]? := fun k hk hn => by
        rw [hM8.same k _ (Array.getElem?_eq_getElem hk) (.inl hn), Array.getElem?_eq_getElem hk]
      have hE8 : Ext w w8 := HEW7.out.trans' ⟨hM8.os, hM8.tape, hM8.output, hM8.size, fun k hk => hsame8 k (by omega) (fun h => by omega)⟩
      have hrg8 := ranges_blocks HRG7.out (hsame8 bn (by omega) (fun h => by omega)) (hsame8 _ (by omega) (fun h => h.2.2 rfl))
      have hT9 := hT8.keep (S' := fun k => w.heap.size ≤ k ∧ k < w8.heap.size ∧ k ≠ w.heap.size + 1 + 1 + 1) (fun _ _ => rfl) (fun k hk => by
        rcases hk with hk | hk
        · exact ⟨hk.1, by have := hk.2.1; omega, hk.2.2⟩
        · exact ⟨by omega, hk.2, by omega⟩) (fun k hk => hk.2.1) (Nat.le_of_eq HLEN.out.symm)
      have HREL := Lib.hid (show ∃ (left : Lit → Bool) (cnt : Nat) (M' : List (Key × Nd)), w8.ranges Tryz.prog 9 Rv bn (w.heap.size + 1 + 1 + 1) mm.length (kvD mm) left cnt ∧ Hid (Laid1 M left M') ∧ Hid (TreeAt (fun k => w.heap.size ≤ k ∧ k < w8.heap.size ∧ k ≠ w.heap.size + 1 + 1 + 1) w8 (w.heap.size + 1 + 1) M' M'.length) ∧ M'.length + cnt ≤ mm.length ∧ Ext w w8 from ⟨_, _, _, hrg8, HL2.out, hT9, HLE.out, hE8⟩)
      have HMS := Lib.hid (show w8.rangeLeft bn (w.heap.size + 1 + 1 + 1) < wr.rangeLeft bn (w.heap.size + 1 + 1 + 1) by rw [hrg8.left_eq, HRG.out.left_eq]; exact hlt6)
      clear CL hT8 hM8 hsame8 hE8 hrg8 hT9 HRG7 HRG HSET HNEW HN7
      go_wp2
      go_roundw
      case rel => exact HREL.out
      case measure => exact HMS.out
end Go.Proofs.YthinpbdbhijbgaaGreatDoor
