/- The law DigestBack, walked. -/
import Derived.Test.YtamolbegmkngdaaDoorJDigestBack11
import Derived.Test.YtamolbegmkngdaaDoorJDigestBack9
import Derived.Test.YtamolbegmkngdaaDoorJDigestBack10
namespace Go.Proofs.YtamolbegmkngdaaDoor
open Go.RowKit Go.Sort
set_option maxHeartbeats 8000000
set_option maxRecDepth 100000
attribute [local go_sem] Oper.semAt_some

/-- What the rounds that turn the tree's nodes about keep. -/
structure BkI (B bo : Nat) (w W7 : World) (pre : List (Value × Nd)) (W : World) : Prop where
  row : ∃ vs v, W.heap[bo]? = some (.cells #[v] 22 (0, 0)) ∧ W.ownsRow B 37 17 v pre.length (vs.flatMap Array.toList) ∧ EachN (fun k => k < W.heap.size ∧ k ≠ bo) W vs (pre.map (·.2)).reverse
  cells : ∀ k c e f, W7.heap[k]? = some (.cells c e f) → k ≠ bo → W.heap[k]? = some (.cells c e f)
  size : W7.heap.size ≤ W.heap.size
  keep : Below w.heap.size w W
theorem EachN.turn {B bo : Nat} {X Y : World} {vs : List (Array Value)} {L : List Nd} (h : EachN (fun k => k < X.heap.size ∧ k ≠ bo) X vs L) (hT : Turn B X Y) : EachN (fun k => k < Y.heap.size ∧ k ≠ bo) Y vs L :=
  h.imp (fun k hk => ⟨Nat.lt_of_lt_of_le hk.1 hT.size, hk.2⟩) fun _ _ _ _ hu => hT.cell hu
theorem BkI.turn {B bo : Nat} {w W7 : World} {pre : List (Value × Nd)} {X Y : World} (h : BkI B bo w W7 pre X) (hT : Turn W7.heap.size X Y) (hw : w.heap.size ≤ W7.heap.size) : BkI B bo w W7 pre Y := by
  obtain ⟨vs, v, h1, h2, h3⟩ := h.row
  exact ⟨⟨vs, v, hT.cells h1, row_at h2 fun _ _ _ hc => hT.cells hc, h3.turn hT⟩, fun k c e f hk hn => hT.cells (h.cells k c e f hk hn), Nat.le_trans h.size hT.size, h.keep.trans (hT.below hw h.keep.size)⟩
theorem ownsRow_fresh (W : World) (cs : Array Value) (hc : cs.size = 17) : (W.alloc (.cells cs 37)).ownsRow W.heap.size 37 17 (.slice (some ⟨W.heap.size, 0, none⟩) 1 1) 1 cs.toList :=
  ⟨by simp [hc], .inr ⟨W.heap.size, 1, cs, rfl, Nat.le_refl _, heap_alloc_new W _, Nat.le_refl _, by unfold maxLen; decide, by simp [hc], by simp [List.take_of_length_le, hc]⟩⟩

theorem back_walk (L : List Nd) (a : Option Addr) (c : Nat) (G : List Nd) (ga : Option Addr) (gc : Nat) (w : World) (hT : Tabs w) (hL : NdsAt w.heap.size w a L) (hf : ∀ n ∈ L, Fit n) (hl : L.length ≤ 1048576)
    (hG : NdsAt w.heap.size w ga G) (hgf : ∀ n ∈ G, Fit n) (hgl : G.length ≤ 1048576) :
    Calls Tryd.prog 5 #[.slice a L.length c, .slice ga G.length gc] w fun e w' => e = .returned (.bool true) ∧ Below w.heap.size w w' := by
  have hsz := hT.size
  have C1 := Lib.hid (alive9_any w hT)
  have HL := Lib.hid hL
  have HF := Lib.hid hf
  have HG := Lib.hid hG
  have HGF := Lib.hid hgf
  have HT := Lib.hid hT
  clear hL hf hT hG hgf
  refine (callsIn_wide (n := 6)).1 (callsIn_of_wp_marks Tryd.func5 rfl trivial ?_)
  simp only [Tryd.ntmps5, List.size_toArray, List.length_cons, List.length_nil, Nat.reduceAdd, Nat.reduceSub, Array.replicate_succ, Array.replicate_zero, List.push_toArray, List.append_toArray, List.nil_append, List.cons_append]
  gi_wp2_with fail
  refine ⟨trivial, (callsIn_wide.2 C1.out).mono ?_⟩
  rintro e W1 ⟨rfl, hE1⟩
  have C2 := Lib.hid (from_any L a c W1 (HT.out.below hE1 hsz) (HL.out.ext hE1) HF.out (by omega))
  have HE1 := Lib.hid hE1
  have hz1 := hE1.size
  clear hE1 C1 HL
  gi_wp2_with fail
  refine ⟨trivial, (callsIn_wide.2 C2.out).mono ?_⟩
  intro e W2 hout
  unfold FromOut at hout
  cases hfr : fromN L with
  | error x =>
    obtain ⟨i, x⟩ := x
    rw [hfr] at hout
    obtain ⟨rfl, hE2⟩ := hout
    have hx : x ≠ 0 := fromN_err hfr
    have hx1 : (x == 0) = false := by simpa using hx
    have hx2 : decide (x = 0) = false := by simpa using hx
    have CN := Lib.hid (dof_nil W2)
    have HE2 := Lib.hid (HE1.out.trans hE2)
    clear C2 hE2 hfr HF HG HGF
    gi_wp2_with fail
    refine ⟨trivial, (callsIn_wide.2 CN.out).mono ?_⟩
    rintro e W3 ⟨rfl, hE3⟩
    have HFIN : Hid (Below w.heap.size w W3) := HE2.out.trans hE3
    clear CN hE3
    gi_wp2
    exact ⟨_, results_tmp rfl _ _ _, rfl, HFIN.out⟩
  | ok M0 =>
    rw [hfr] at hout
    obtain ⟨bt, rfl, hT2, hE2⟩ := hout
    have hML := hT2.len
    have hclo := fromN_clo hT2.ok hfr
    have hroot := fromN_rootE hfr
    have hB2 : Below w.heap.size w W2 := HE1.out.trans hE2
    have hz2 := hE2.size
    have C3 := Lib.hid (begin_any _ W2 bt M0 _ hT2 (HT.out.below hB2 hsz) (by omega))
    have HT2 := Lib.hid hT2
    have HB2 := Lib.hid hB2
    have HCLO := Lib.hid hclo
    have HROOT := Lib.hid hroot
    clear hT2 hB2 hclo hroot hE2 C2 hfr HF
    gi_wp2_with fail
    refine ⟨trivial, (callsIn_wide.2 C3.out).mono ?_⟩
    rintro e W3 ⟨br, rfl, hbr, hR3, hE3⟩
    have hE3 : Ext W2 W3 := hE3
    have hbr : W2.heap.size ≤ br := hbr
    have hR3 : RunAt W3 br (digV M0) := hR3
    have hz3 := hE3.size
    have hb0 : BAt w.heap.size w W3 bt br (L.length + 2 * 0) M0 (digV M0) :=
      ⟨(HT2.out.ext hE3).keep (fun _ _ => rfl) (fun k hk => ⟨by omega, by omega, by omega⟩) (fun k hk => hk.2.1) (by omega), ⟨HCLO.out, by omega⟩, HROOT.out, HB2.out.trans (hE3.mono HB2.out.size), hR3, by omega⟩
    have HB0 := Lib.hid hb0
    clear hb0 hR3 hE3 C3 HT2 HB2 HCLO HROOT
    gi_wp2_with fail
    gi_loopw [9] (fun i wr => ∃ (k : Nat) (M : List (Key × Nd)), k ≤ G.length ∧ i = .int .i64 k ∧ Hid (BAt w.heap.size w wr bt br (L.length + 2 * k) M (digV M))) (fun i _ => G.length - (intOf i).toNat)
    case atStart => exact ⟨0, M0, Nat.zero_le _, rfl, HB0.out⟩
    case round =>
      obtain ⟨k, M, hk, rfl, HR⟩ := hrel
      clear HB0
      have hwr := HR.out.bel.size
      by_cases hlt : k < G.length
      · obtain ⟨b, off, vv, rfl, hb, hv, hc⟩ := HG.out k G[k] (List.getElem?_eq_getElem hlt)
        have hfc := HGF.out G[k] (List.getElem_mem hlt)
        generalize G[k] = n at *
        obtain ⟨da, dc, aa, ac, rfl, hD, hA⟩ := hv
        have HRW : Hid (∀ X, Below w.heap.size w X → ∀ j u, (ndC n (.slice da n.data.length dc) (.slice aa n.acl.length ac))[j]? = some u → X.cell? ((⟨b, off + k * 17, none⟩ : Addr).add j) = some u) := fun X hX j u hj => by
          rw [addr_add, hX.cell (p := ⟨b, off + k * 17 + j, none⟩) hb]; exact hc j u hj
        have hps : n.path.size ≤ 9223372036854775800 := hfc.path
        have hp0 : wr.cell? ⟨b, off + k * 17, none⟩ = some (.string n.path) := by
          have h := HRW.out wr HR.out.bel 0 (.string n.path) rfl
          simpa [addr_add] using h
        have CG := Lib.hid (tget_any _ wr bt M _ HR.out.tree n.path (by unfold maxLen; omega))
        have HFC := Lib.hid hfc
        have HD := Lib.hid hD
        have HA := Lib.hid hA
        clear hfc hD hA hc HG HGF
        gi_wp2_with fail
        refine ⟨trivial, (callsIn_wide.2 CG.out).mono ?_⟩
        rintro e X2 ⟨v3, rfl, hv3, hE2⟩
        obtain ⟨d1, e1, a1, f1, X3, e0, hset3, hbx3, hEX3, _, _⟩ := box_node hv3 fun b hb => hb.2
        subst e0
        obtain ⟨hDy, hAy⟩ := nds_parts hv3
        have hDy := hDy.kept fun _ _ hu => cellE hEX3 hu
        have hAy := hAy.kept fun _ _ hu => cellE hEX3 hu
        have hE2 : Ext wr X2 := hE2
        have hzx2 := hE2.size
        have hfy := HR.out.tree.ok.fit n.path.data.toList
        have hE3 : Ext wr X3 := hE2.trans hEX3
        have hzx3 := hE3.size
        have hz23 := hEX3.size
        have hw3 := Nat.le_trans hwr hE3.size
        have HR3 : Hid (BAt w.heap.size w X3 bt br (L.length + 2 * k) M (digV M)) := HR.out.ext hE3 hwr
        generalize hy : (mget M n.path.data.toList).getD zeroN = y at *
        have HB3 := Lib.hid hbx3
        have HSET3 := Lib.hid hset3
        have HNEW3 := Lib.hid (heap_alloc_new X2 (.cells zeroNd 37))
        have HDY := Lib.hid hDy
        have HAY := Lib.hid hAy
        have HFY := Lib.hid hfy
        have hltw := HR.out.lt
        have hX2b : X2.heap.size ≠ br := by omega
        unfold ndC at HSET3 ⊢
        unfold zeroNd at HSET3 HNEW3
        clear CG hset3 hbx3 hEX3 hE2 hv3 hp0 hE3 hDy hAy hfy
        cases hg : mget M n.path.data.toList with
        | none =>
          have CA := Lib.hid (add_any _ X3 bt M _ HR3.out.tree n da aa dc ac (HT.out.below HR3.out.bel hsz) HFC.out (by omega) ((HD.out.below HR3.out.bel).mono hw3) ((HA.out.below HR3.out.bel).mono hw3))
          have HCX := Lib.hid (HRW.out X3 HR3.out.bel)
          have hwell := wellb_add (n := n) HR3.out.tree.ok HR3.out.well
          have hrt := root_addM HR3.out.tree.ok.sorted HR3.out.root n
          have HWELL := Lib.hid hwell
          have HRT := Lib.hid hrt
          unfold ndC at HCX CA
          clear hwell hrt
          gi_wp2_with (first | (refine wpListIn_store_row (fun _ => trivial) rfl 37 (.tmp 10) (.tmp 52) rfl X2.heap.size _ rfl rfl 37 _ HNEW3.out sizeNd rfl (cells_node y d1 a1 _ _ e1 f1) ?_; rw [HSET3.out]) | (refine wpListIn_value (fun _ => trivial) rfl (fun c h => by cases h) (ex_load_at (ty := 37) (x := .tmp 86) rfl _ rfl _ HCX.out Tryd.underlying37 rfl sizeNd) ?_))
          refine ⟨trivial, (callsIn_wide.2 CA.out).mono ?_⟩
          intro e X4 hto
          have hm4 := hto.2.2
          have hz4 := hm4.size
          have HR4 : Hid (BAt w.heap.size w X4 bt br (L.length + 2 * k + 1) (addM M n) (digV M)) := BAt.step HR3.out hw3 hto (by omega) HWELL.out HRT.out
          obtain ⟨rfl, -, -⟩ := hto
          have hw4 := Nat.le_trans hw3 hz4
          clear CA hm4 HCX HWELL HRT
          by_cases hae : addE M n = 0
          · have hM4 : addM M n = mput M (keyN n) n := by unfold addM; rw [if_pos hae]
            have hdg := back_add (M := M) (n := n) hg
            rw [← hM4] at hdg
            have HCX := Lib.hid (HRW.out X4 HR4.out.bel)
            obtain ⟨X5, hX5⟩ : ∃ X5, X5 = X4.alloc (.cells (ndC n (.slice da n.data.length dc) (.slice aa n.acl.length ac)) 37) := ⟨_, rfl⟩
            have hE5 : Ext X4 X5 := by rw [hX5]; exact Ext.alloc _ _
            have hb5 : X5.heap[X4.heap.size]? = some (.cells (ndC n (.slice da n.data.length dc) (.slice aa n.acl.length ac)) 37 (0, 0)) := by rw [hX5]; exact heap_alloc_new X4 _
            have hz5 : X5.heap.size = X4.heap.size + 1 := by rw [hX5]; simp
            have HR5 : Hid (BAt w.heap.size w X5 bt br (L.length + 2 * k + 1) (addM M n) (digV M)) := HR4.out.ext hE5 hw4
            have hlt4 := HR4.out.lt
            have hNS := nds_one (S := fun k => k < X5.heap.size ∧ k ≠ br) hb5 ⟨by omega, by omega⟩ (show CellsS (fun k => k < w.heap.size) X5 da (n.data.map u8v) from HD.out.below HR5.out.bel) (show CellsS (fun k => k < w.heap.size) X5 aa (acCs n.acl) from HA.out.below HR5.out.bel) (fun k (hk : k < w.heap.size) => ⟨by omega, by have := HR5.out.own; omega⟩)
            have hN0 : NdsS (fun k => k < X5.heap.size ∧ k ≠ br) X5 none [] := fun i n h => by simp at h
            have CT := turn_any_s (fun k => k < X5.heap.size ∧ k ≠ br) br (digV M) [] [n] none (some ⟨X4.heap.size, 0, none⟩) 0 1 X5 HR5.out.run (HT.out.below HR5.out.bel hsz) hN0 hNS (fun m hm => by simp at hm) (fun m hm => by simp at hm; subst hm; exact HFC.out) (by have := HR5.out.own; omega) (fun k hk => ⟨hk.2, hk.1⟩) (by simp) (by simp)
            rw [hdg] at CT
            have CT := Lib.hid CT
            have HX5 := Lib.hid hX5.symm
            unfold ndC at HCX HX5
            clear hdg hX5 hE5 hb5 hNS hN0 hM4 HB3 HDY HAY HSET3 HNEW3
            have ha1 : (addE M n == 0) = true := by simpa using hae
            have ha2 : decide (addE M n = 0) = true := by simpa using hae
            rw [hae]
            gi_wp2_with (refine wpListIn_value (fun _ => trivial) rfl (fun c h => by cases h) (ex_load_at (ty := 37) (x := .tmp 93) rfl _ rfl _ HCX.out Tryd.underlying37 rfl sizeNd) ?_)
            rw [HX5.out]
            refine ⟨trivial, (callsIn_wide.2 CT.out).mono ?_⟩
            rintro e X6 ⟨rfl, hR6, hU6⟩
            have HR6 : Hid (BAt w.heap.size w X6 bt br (L.length + 2 * (k + 1)) (addM M n) (digV (addM M n))) := (HR5.out.turn (Nat.le_trans hw4 (by omega)) hU6 hR6).more (by omega)
            clear CT hR6 hU6 HX5 HCX HR5 HR4
            generalize addM M n = M4 at *
            have CV := Lib.hid (value_any br (digV M4) X6 HR6.out.run)
            have CO := Lib.hid (dof_any _ X6 bt M4 _ HR6.out.tree (HT.out.below HR6.out.bel hsz) (by have := HR6.out.tree.len; omega))
            generalize hdv : digV M4 = dv at *
            have hdv2 : addN 0 ((M4).map (·.2)) = dv := hdv
            rw [hdv2] at CO
            have HDV := Lib.hid hdv
            clear hdv hdv2
            gi_wp2_with fail
            refine ⟨trivial, (callsIn_wide.2 CV.out).mono ?_⟩
            rintro e XV ⟨rfl, rfl⟩
            gi_wp2_with fail
            refine ⟨trivial, (callsIn_wide.2 CO.out).mono ?_⟩
            rintro e XO ⟨rfl, hEO⟩
            have hEO : Ext X6 XO := hEO
            have HO : Hid (BAt w.heap.size w XO bt br (L.length + 2 * (k + 1)) M4 (digV M4)) := by
              rw [HDV.out]
              exact HR6.out.ext hEO HR6.out.bel.size
            clear CV CO hEO
            gi_wp2
            go_roundw
            case rel => exact ⟨k + 1, M4, by omega, by go_num, HO.out⟩
            case measure => simp [intOf]; omega
          · have hM4 : addM M n = M := by unfold addM; rw [if_neg hae]
            have ha1 : (addE M n == 0) = false := by simpa using hae
            have ha2 : decide (addE M n = 0) = false := by simpa using hae
            have HR6 : Hid (BAt w.heap.size w X4 bt br (L.length + 2 * (k + 1)) M (digV M)) := by
              have h := HR4.out
              rw [hM4] at h
              exact h.more (by omega)
            clear hM4 HR4 HB3 HDY HAY HSET3 HNEW3
            generalize addE M n = ae at *
            have CV := Lib.hid (value_any br (digV M) X4 HR6.out.run)
            have CO := Lib.hid (dof_any _ X4 bt M _ HR6.out.tree (HT.out.below HR6.out.bel hsz) (by have := HR6.out.tree.len; omega))
            generalize hdv : digV M = dv at *
            have hdv2 : addN 0 ((M).map (·.2)) = dv := hdv
            rw [hdv2] at CO
            have HDV := Lib.hid hdv
            clear hdv hdv2
            gi_wp2_with fail
            refine ⟨trivial, (callsIn_wide.2 CV.out).mono ?_⟩
            rintro e XV ⟨rfl, rfl⟩
            gi_wp2_with fail
            refine ⟨trivial, (callsIn_wide.2 CO.out).mono ?_⟩
            rintro e XO ⟨rfl, hEO⟩
            have hEO : Ext X4 XO := hEO
            have HO : Hid (BAt w.heap.size w XO bt br (L.length + 2 * (k + 1)) M (digV M)) := by
              rw [HDV.out]
              exact HR6.out.ext hEO HR6.out.bel.size
            clear CV CO hEO
            gi_wp2
            go_roundw
            case rel => exact ⟨k + 1, M, by omega, by go_num, HO.out⟩
            case measure => simp [intOf]; omega
        | some y0 =>
          have hyy : y = y0 := by rw [← hy, hg]; rfl
          have hgy : mget M (keyN n) = some y := by rw [hyy]; exact hg
          have CA := Lib.hid (tput_any _ X3 bt M _ HR3.out.tree n da aa dc ac (HT.out.below HR3.out.bel hsz) HFC.out (by omega) ((HD.out.below HR3.out.bel).mono hw3) ((HA.out.below HR3.out.bel).mono hw3))
          have HCX := Lib.hid (HRW.out X3 HR3.out.bel)
          have hwell := wellb_put (n := n) HR3.out.tree.ok HR3.out.well
          have hrt := root_putM HR3.out.tree.ok.sorted HR3.out.root n
          have HWELL := Lib.hid hwell
          have HRT := Lib.hid hrt
          have HGY := Lib.hid hgy
          unfold ndC at HCX CA
          clear hwell hrt hyy hgy
          gi_wp2_with (first | (refine wpListIn_store_row (fun _ => trivial) rfl 37 (.tmp 10) (.tmp 52) rfl X2.heap.size _ rfl rfl 37 _ HNEW3.out sizeNd rfl (cells_node y d1 a1 _ _ e1 f1) ?_; rw [HSET3.out]) | (refine wpListIn_value (fun _ => trivial) rfl (fun c h => by cases h) (ex_load_at (ty := 37) (x := .tmp 58) rfl _ rfl _ HCX.out Tryd.underlying37 rfl sizeNd) ?_))
          refine ⟨trivial, (callsIn_wide.2 CA.out).mono ?_⟩
          intro e X4 hto
          have hm4 := hto.2.2
          have hz4 := hm4.size
          have HR4 : Hid (BAt w.heap.size w X4 bt br (L.length + 2 * k + 1) (putM M n) (digV M)) := BAt.step HR3.out hw3 hto (by omega) HWELL.out HRT.out
          have HB4 := Lib.hid (hm4.cells HB3.out)
          have hDy4 := HDY.out.kept fun _ _ hu => hm4.cell hu
          have hAy4 := HAY.out.kept fun _ _ hu => hm4.cell hu
          obtain ⟨rfl, -, -⟩ := hto
          have hw4 := Nat.le_trans hw3 hz4
          have hlt4 := HR4.out.lt
          have hlt3 := HR3.out.lt
          have HDY4 := Lib.hid hDy4
          have HAY4 := Lib.hid hAy4
          clear CA hm4 HCX HWELL HRT HB3 HDY HAY hDy4 hAy4 HSET3 HNEW3
          by_cases hae : putE M n = 0
          · have hM4 : putM M n = mput M (keyN n) n := by unfold putM; rw [if_pos hae]
            have hdg := back_put HR.out.tree.ok.sorted HGY.out
            rw [← hM4] at hdg
            have HDG := Lib.hid hdg
            have HCX := Lib.hid (HRW.out X4 HR4.out.bel)
            have ha1 : (putE M n == 0) = true := by simpa using hae
            have ha2 : decide (putE M n = 0) = true := by simpa using hae
            rw [hae]
            clear hdg hM4
            gi_wp2_with fail
            refine (wpIn_wide (n := 6)).2 (wp_region_P (by kernel_rfl) (region_sp_call 127 [.val (.pointer (some ⟨br, 0, none⟩)), .val (.agg (ndC y (.slice d1 y.data.length e1) (.slice a1 y.acl.length f1))), .prop (RowOne (ndC y (.slice d1 y.data.length e1) (.slice a1 y.acl.length f1)) X4.heap.size), .val (.slice (some ⟨b, off, none⟩) G.length gc), .val (.int .i64 k), .val (.pointer (some ⟨b, off + k * 17, none⟩)), .val (.agg (ndC n (.slice da n.data.length dc) (.slice aa n.acl.length ac))), .prop (RowOne (ndC n (.slice da n.data.length dc) (.slice aa n.acl.length ac)) X4.heap.size)] ⟨rowOne_ext _ _, rowOne_ext _ _, trivial⟩ 8 _ rfl rfl rfl rfl (by decide) rfl ?duties ?last))
            case duties =>
              refine ⟨?_, ?_, ?_, ?_, ?_, ?_, ?_, ?_, trivial⟩
              · refine duty_free rfl fun a w' hE hF hA => ?_
                have x1 := hF.slot 8 _ (by decide) rfl
                exact wp_value (w' := w') (v := .pointer (some ⟨br, 0, none⟩)) (by simp only [execOp, x1]; simp [go_sem]) ⟨_, rfl, rfl, Ext.refl _⟩
              · refine duty_free rfl fun a w' hE hF hA => ?_
                have x1 := hF.slot 10 _ (by decide) rfl
                exact wp_value (ex_load_row rfl _ x1 37 _ (0, 0) _ ((hE.block _ (Array.getElem?_eq_some_iff.1 HB4.out).1).trans HB4.out) Tryd.underlying37 rfl sizeNd) ⟨_, rfl, rfl, Ext.refl _⟩
              · refine duty_free rfl fun a w' hE hF hA => ?_
                have x1 := hA.pick 1 63 (.agg (ndC y (.slice d1 y.data.length e1) (.slice a1 y.acl.length f1))) rfl rfl ⟨⟨1, .data⟩, by simp, rfl, rfl⟩ (fun u h => h)
                obtain ⟨i0, hi, hz0, hz1', hz2⟩ := info_parts infoNd
                refine wp_buildSlice 22 37 1 _ rfl (ndC y (.slice d1 y.data.length e1) (.slice a1 y.acl.length f1)) i0 (.agg zeroNd) Tryd.underlying22 hi hz0 (by rw [hz1']; decide) (by rw [hz1']; decide) (by simp only [List.map_toArray, List.map_cons, List.map_nil, x1, hz1']; kernel_rfl) ⟨_, rfl, ⟨w'.heap.size, rfl, hE.size, heap_alloc_new _ _⟩, Ext.alloc _ _⟩
              · refine duty_free rfl fun a w' hE hF hA => ?_
                have x1 := hF.slot 1 _ (by decide) rfl
                exact wp_value (w' := w') (v := .slice (some ⟨b, off, none⟩) G.length gc) (by simp only [execOp, x1]; simp [go_sem]) ⟨_, rfl, rfl, Ext.refl _⟩
              · refine duty_free rfl fun a w' hE hF hA => ?_
                have x1 := hF.slot 9 _ (by decide) rfl
                exact wp_value (w' := w') (v := .int .i64 k) (by simp only [execOp, x1]; simp [go_sem]) ⟨_, rfl, rfl, Ext.refl _⟩
              · refine duty_free rfl fun a w' hE hF hA => ?_
                have x1 := hA.pick 3 65 (.slice (some ⟨b, off, none⟩) G.length gc) rfl rfl ⟨⟨3, .data⟩, by simp, rfl, rfl⟩ (fun u h => h)
                have x2 := hA.pick 4 66 (.int .i64 k) rfl rfl ⟨⟨4, .data⟩, by simp, rfl, rfl⟩ (fun u h => h)
                exact wp_value (w' := w') (v := .pointer (some ⟨b, off + k * 17, none⟩)) (by simp only [execOp, x1, x2]; simp [go_sem, hlt]) ⟨_, rfl, rfl, Ext.refl _⟩
              · refine duty_free rfl fun a w' hE hF hA => ?_
                have x1 := hA.pick 5 67 (.pointer (some ⟨b, off + k * 17, none⟩)) rfl rfl ⟨⟨5, .data⟩, by simp, rfl, rfl⟩ (fun u h => h)
                exact wp_value (ex_load_at rfl _ x1 (ndC n (.slice da n.data.length dc) (.slice aa n.acl.length ac)) (fun j u hj => ((hE.cell (World.block_lt_of_cell? _ _ (HCX.out j u hj))).trans (HCX.out j u hj))) Tryd.underlying37 rfl sizeNd) ⟨_, rfl, rfl, Ext.refl _⟩
              · refine duty_free rfl fun a w' hE hF hA => ?_
                have x1 := hA.pick 6 68 (.agg (ndC n (.slice da n.data.length dc) (.slice aa n.acl.length ac))) rfl rfl ⟨⟨6, .data⟩, by simp, rfl, rfl⟩ (fun u h => h)
                obtain ⟨i0, hi, hz0, hz1', hz2⟩ := info_parts infoNd
                refine wp_buildSlice 22 37 1 _ rfl (ndC n (.slice da n.data.length dc) (.slice aa n.acl.length ac)) i0 (.agg zeroNd) Tryd.underlying22 hi hz0 (by rw [hz1']; decide) (by rw [hz1']; decide) (by simp only [List.map_toArray, List.map_cons, List.map_nil, x1, hz1']; kernel_rfl) ⟨_, rfl, ⟨w'.heap.size, rfl, hE.size, heap_alloc_new _ _⟩, Ext.alloc _ _⟩
            case last =>
              intro X5 hE5
              simp only [forS]
              intro u1 hu1 u2 hu2 a' u hfr hS
              obtain ⟨g1, rfl, hg1, hc1⟩ := hu1
              obtain ⟨g2, rfl, hg2, hc2⟩ := hu2
              have x1 := hS 0 62 _ (by decide) rfl rfl
              have x2 := hS 2 64 _ (by decide) rfl rfl
              have x3 := hS 7 69 _ (by decide) rfl rfl
              have HR5 : Hid (BAt w.heap.size w X5 bt br (L.length + 2 * k + 1) (putM M n) (digV M)) := HR4.out.ext hE5 hw4
              have hz5 := hE5.size
              have hNA := nds_one (S := fun k => k < X5.heap.size ∧ k ≠ br) hc1 ⟨(Array.getElem?_eq_some_iff.1 hc1).1, by omega⟩ (HDY4.out.kept fun _ _ hu => cellE hE5 hu) (HAY4.out.kept fun _ _ hu => cellE hE5 hu) (fun k hk => ⟨by have := hk.2; omega, by have := hk.1; omega⟩)
              have hNB := nds_one (S := fun k => k < X5.heap.size ∧ k ≠ br) hc2 ⟨(Array.getElem?_eq_some_iff.1 hc2).1, by omega⟩ (show CellsS (fun k => k < w.heap.size) X5 da (n.data.map u8v) from HD.out.below HR5.out.bel) (show CellsS (fun k => k < w.heap.size) X5 aa (acCs n.acl) from HA.out.below HR5.out.bel) (fun k (hk : k < w.heap.size) => ⟨by omega, by have := HR5.out.own; omega⟩)
              have CT := turn_any_s (fun k => k < X5.heap.size ∧ k ≠ br) br (digV M) [y] [n] (some ⟨g1, 0, none⟩) (some ⟨g2, 0, none⟩) 1 1 X5 HR5.out.run (HT.out.below HR5.out.bel hsz) hNA hNB (fun m hm => by simp at hm; subst hm; exact HFY.out) (fun m hm => by simp at hm; subst hm; exact HFC.out) (by have := HR5.out.own; omega) (fun k hk => ⟨hk.2, hk.1⟩) (by simp) (by simp)
              rw [HDG.out] at CT
              refine wp_enter (ex_call rfl (enters_f Tryd.func21 (by kernel_rfl) rfl)) (by simp only [List.map_toArray, List.map_cons, List.map_nil, x1, x2, x3]; exact CT) ?_
              rintro e X6 ⟨rfl, hR6, hU6⟩
              have HR6 : Hid (BAt w.heap.size w X6 bt br (L.length + 2 * (k + 1)) (putM M n) (digV (putM M n))) := (HR5.out.turn (Nat.le_trans hw4 (by omega)) hU6 hR6).more (by omega)
              refine ⟨_, rfl, ?_⟩
              clear CT hR6 hU6 HCX HR5 HR4 hNA hNB x1 x2 x3 hS hc1 hc2 HDY4 HAY4 HB4 HDG hE5
              subst hfr
              simp only [filled, List.cons_append, List.nil_append, List.zip_cons_cons, List.zip_nil_left, List.foldl_cons, List.foldl_nil, Act.put]
              go_simp
              rename_i hKd
              refine hKd _ _ ?_
              clear hKd
              generalize putM M n = M4 at *
              have CV := Lib.hid (value_any br (digV M4) X6 HR6.out.run)
              have CO := Lib.hid (dof_any _ X6 bt M4 _ HR6.out.tree (HT.out.below HR6.out.bel hsz) (by have := HR6.out.tree.len; omega))
              generalize hdv : digV M4 = dv at *
              have hdv2 : addN 0 ((M4).map (·.2)) = dv := hdv
              rw [hdv2] at CO
              have HDV := Lib.hid hdv
              clear hdv hdv2
              gi_wp2_with fail
              refine ⟨trivial, (callsIn_wide.2 CV.out).mono ?_⟩
              rintro e XV ⟨rfl, rfl⟩
              gi_wp2_with fail
              refine ⟨trivial, (callsIn_wide.2 CO.out).mono ?_⟩
              rintro e XO ⟨rfl, hEO⟩
              have hEO : Ext X6 XO := hEO
              have HO : Hid (BAt w.heap.size w XO bt br (L.length + 2 * (k + 1)) M4 (digV M4)) := by
                rw [HDV.out]
                exact HR6.out.ext hEO HR6.out.bel.size
              clear CV CO hEO
              gi_wp2
              go_roundw
              case rel => exact ⟨k + 1, M4, by omega, by go_num, HO.out⟩
              case measure => simp [intOf]; omega
          · have hM4 : putM M n = M := by unfold putM; rw [if_neg hae]
            have ha1 : (putE M n == 0) = false := by simpa using hae
            have ha2 : decide (putE M n = 0) = false := by simpa using hae
            have HR5 : Hid (BAt w.heap.size w X4 bt br (L.length + 2 * k + 1) M (digV M)) := by
              have h := HR4.out
              rw [hM4] at h
              exact h
            have hp4 : X4.cell? ⟨b, off + k * 17, none⟩ = some (.string n.path) := by
              have h := HRW.out X4 HR5.out.bel 0 (.string n.path) rfl
              simpa [addr_add] using h
            have CR := Lib.hid (rem_any _ X4 bt M _ HR5.out.tree n.path hps (by omega))
            have hwell := wellb_rem (s := n.path) HR5.out.tree.ok HR5.out.well
            have hrt := root_remM HR5.out.tree.ok.sorted HR5.out.root n.path
            have HWELL := Lib.hid hwell
            have HRT := Lib.hid hrt
            clear hM4 HR4 hwell hrt
            generalize putE M n = ae at *
            gi_wp2_with fail
            refine ⟨trivial, (callsIn_wide.2 CR.out).mono ?_⟩
            intro e X5 hto
            have hm5 := hto.2.2
            have hz5 := hm5.size
            have HR6 : Hid (BAt w.heap.size w X5 bt br (L.length + 2 * k + 1 + 1) (remM M n.path) (digV M)) := BAt.step HR5.out hw4 hto (by omega) HWELL.out HRT.out
            have HB5 := Lib.hid (hm5.cells HB4.out)
            have hDy5 := HDY4.out.kept fun _ _ hu => hm5.cell hu
            have hAy5 := HAY4.out.kept fun _ _ hu => hm5.cell hu
            obtain ⟨rfl, -, -⟩ := hto
            have hw5 := Nat.le_trans hw4 hz5
            have HDY5 := Lib.hid hDy5
            have HAY5 := Lib.hid hAy5
            clear CR hm5 HWELL HRT HB4 HDY4 HAY4 hDy5 hAy5 HR5 hp4
            by_cases hre : remE M n.path = 0
            · have hM5 : remM M n.path = mdel M n.path.data.toList := by unfold remM; rw [if_pos hre]
              have hdg := back_rem HR.out.tree.ok.sorted HGY.out
              rw [show keyN n = n.path.data.toList from rfl, ← hM5] at hdg
              obtain ⟨X6, hX6⟩ : ∃ X6, X6 = X5.alloc (.cells (ndC y (.slice d1 y.data.length e1) (.slice a1 y.acl.length f1)) 37) := ⟨_, rfl⟩
              have hE6 : Ext X5 X6 := by rw [hX6]; exact Ext.alloc _ _
              have hb6 : X6.heap[X5.heap.size]? = some (.cells (ndC y (.slice d1 y.data.length e1) (.slice a1 y.acl.length f1)) 37 (0, 0)) := by rw [hX6]; exact heap_alloc_new X5 _
              have hz6 : X6.heap.size = X5.heap.size + 1 := by rw [hX6]; simp
              have HR7 : Hid (BAt w.heap.size w X6 bt br (L.length + 2 * k + 1 + 1) (remM M n.path) (digV M)) := HR6.out.ext hE6 hw5
              have hlt6 := HR6.out.lt
              have hNS := nds_one (S := fun k => k < X6.heap.size ∧ k ≠ br) hb6 ⟨by omega, by omega⟩ (HDY5.out.kept fun _ _ hu => cellE hE6 hu) (HAY5.out.kept fun _ _ hu => cellE hE6 hu) (fun k hk => ⟨by have := hk.2; omega, by have := hk.1; omega⟩)
              have hN0 : NdsS (fun k => k < X6.heap.size ∧ k ≠ br) X6 none [] := fun i n h => by simp at h
              have CT := turn_any_s (fun k => k < X6.heap.size ∧ k ≠ br) br (digV M) [y] [] (some ⟨X5.heap.size, 0, none⟩) none 1 0 X6 HR7.out.run (HT.out.below HR7.out.bel hsz) hNS hN0 (fun m hm => by simp at hm; subst hm; exact HFY.out) (fun m hm => by simp at hm) (by have := HR7.out.own; omega) (fun k hk => ⟨hk.2, hk.1⟩) (by simp) (by simp)
              rw [hdg] at CT
              have CT := Lib.hid CT
              have HX6 := Lib.hid hX6.symm
              unfold ndC at HX6 HB5
              clear hdg hX6 hE6 hb6 hNS hN0 hM5
              have hr1 : (remE M n.path == 0) = true := by simpa using hre
              have hr2 : decide (remE M n.path = 0) = true := by simpa using hre
              rw [hre]
              gi_wp2_with (refine wpListIn_load_row (fun _ => trivial) rfl 37 (.tmp 10) rfl X2.heap.size rfl 37 _ (0, 0) _ HB5.out Tryd.underlying37 rfl sizeNd ?_)
              rw [HX6.out]
              refine ⟨trivial, (callsIn_wide.2 CT.out).mono ?_⟩
              rintro e X7 ⟨rfl, hR7, hU7⟩
              have HR8 : Hid (BAt w.heap.size w X7 bt br (L.length + 2 * (k + 1)) (remM M n.path) (digV (remM M n.path))) := (HR7.out.turn (Nat.le_trans hw5 (by omega)) hU7 hR7).more (by omega)
              clear CT hR7 hU7 HX6 HR7 HR6 HB5 HDY5 HAY5
              generalize remM M n.path = M4 at *
              have CV := Lib.hid (value_any br (digV M4) X7 HR8.out.run)
              have CO := Lib.hid (dof_any _ X7 bt M4 _ HR8.out.tree (HT.out.below HR8.out.bel hsz) (by have := HR8.out.tree.len; omega))
              generalize hdv : digV M4 = dv at *
              have hdv2 : addN 0 ((M4).map (·.2)) = dv := hdv
              rw [hdv2] at CO
              have HDV := Lib.hid hdv
              clear hdv hdv2
              gi_wp2_with fail
              refine ⟨trivial, (callsIn_wide.2 CV.out).mono ?_⟩
              rintro e XV ⟨rfl, rfl⟩
              gi_wp2_with fail
              refine ⟨trivial, (callsIn_wide.2 CO.out).mono ?_⟩
              rintro e XO ⟨rfl, hEO⟩
              have hEO : Ext X7 XO := hEO
              have HO : Hid (BAt w.heap.size w XO bt br (L.length + 2 * (k + 1)) M4 (digV M4)) := by
                rw [HDV.out]
                exact HR8.out.ext hEO HR8.out.bel.size
              clear CV CO hEO
              gi_wp2
              go_roundw
              case rel => exact ⟨k + 1, M4, by omega, by go_num, HO.out⟩
              case measure => simp [intOf]; omega
            · have hM5 : remM M n.path = M := by unfold remM; rw [if_neg hre]
              have hr1 : (remE M n.path == 0) = false := by simpa using hre
              have hr2 : decide (remE M n.path = 0) = false := by simpa using hre
              have HR8 : Hid (BAt w.heap.size w X5 bt br (L.length + 2 * (k + 1)) M (digV M)) := by
                have h := HR6.out
                rw [hM5] at h
                exact h.more (by omega)
              clear hM5 HR6 HB5 HDY5 HAY5
              generalize remE M n.path = re at *
              have CV := Lib.hid (value_any br (digV M) X5 HR8.out.run)
              have CO := Lib.hid (dof_any _ X5 bt M _ HR8.out.tree (HT.out.below HR8.out.bel hsz) (by have := HR8.out.tree.len; omega))
              generalize hdv : digV M = dv at *
              have hdv2 : addN 0 ((M).map (·.2)) = dv := hdv
              rw [hdv2] at CO
              have HDV := Lib.hid hdv
              clear hdv hdv2
              gi_wp2_with fail
              refine ⟨trivial, (callsIn_wide.2 CV.out).mono ?_⟩
              rintro e XV ⟨rfl, rfl⟩
              gi_wp2_with fail
              refine ⟨trivial, (callsIn_wide.2 CO.out).mono ?_⟩
              rintro e XO ⟨rfl, hEO⟩
              have hEO : Ext X5 XO := hEO
              have HO : Hid (BAt w.heap.size w XO bt br (L.length + 2 * (k + 1)) M (digV M)) := by
                rw [HDV.out]
                exact HR8.out.ext hEO HR8.out.bel.size
              clear CV CO hEO
              gi_wp2
              go_roundw
              case rel => exact ⟨k + 1, M, by omega, by go_num, HO.out⟩
              case measure => simp [intOf]; omega
      · obtain rfl : k = G.length := by omega
        have hltw := HR.out.lt
        have hkl : M.length ≤ 3145728 := by have := HR.out.tree.len; omega
        obtain ⟨W5, hW5⟩ : ∃ W5, W5 = wr.alloc (.cells #[.slice none 0 0] 22) := ⟨_, rfl⟩
        have hE5 : Ext wr W5 := by rw [hW5]; exact Ext.alloc _ _
        have hz5 : W5.heap.size = wr.heap.size + 1 := by rw [hW5]; simp
        have hbx5 : W5.heap[wr.heap.size]? = some (.cells #[.slice none 0 0] 22 (0, 0)) := by rw [hW5]; exact heap_alloc_new wr _
        have HW5 := Lib.hid hW5.symm
        have HE5 := Lib.hid hE5
        have HBX5 := Lib.hid hbx5
        clear hW5 hE5 hbx5
        gi_wp2_with fail
        rw [HW5.out]
        refine ⟨trivial, (callsIn_wide.2 (tall_any bt W5)).mono ?_⟩
        rintro e W7 ⟨bw, btb, rfl, hcw, hct, hE7⟩
        have hnn := told_not_nil #[.pointer (some ⟨bw, 0, none⟩), .pointer (some ⟨btb, 0, none⟩)] W7
        have hz7 := hE7.size
        have hE07 : Ext wr W7 := HE5.out.trans hE7
        have hT7 := HR.out.tree.ext hE07
        have hok := HR.out.tree.ok
        have hsafe : ∀ k, (w.heap.size ≤ k ∧ k < wr.heap.size ∧ k ≠ br) → k ≠ wr.heap.size := fun k hk => by omega
        have TT := told_tells (fun _ k => k ≠ wr.heap.size) _ W7 bt M _ hT7 hsafe bw btb 46 #[.pointer (some ⟨bt, 0, none⟩)] #[] hcw hct (enters_of Tryd.func46 (by kernel_rfl) rfl) (M.map (·.1))
          (fun W hW => by simpa using tsorted_any _ W bt M _ (hT7.ext hW) (by omega)) (by simp; omega) hok.keys_le
        rw [nodesOf_vals hok.sorted] at TT
        have TT := Lib.hid TT
        have hI0 : BkI W7.heap.size wr.heap.size w W7 [] W7 := ⟨⟨[], .slice none 0 0, (hE7.block _ (by omega)).trans HBX5.out, World.ownsRow_nil _ _ _ _, rfl, fun j cs h => by simp at h⟩, fun _ _ _ _ h _ => h, Nat.le_refl _, HR.out.bel.trans (hE07.mono hwr)⟩
        have hrun7 : RunAt W7 br (digV M) := (hE07.block br hltw).trans HR.out.run
        have HI0 := Lib.hid hI0
        have HRUN7 := Lib.hid hrun7
        have HOK := Lib.hid hok
        have hclo := HR.out.well.clo
        have hroot := HR.out.root
        have HCLO := Lib.hid hclo
        have HROOT := Lib.hid hroot
        clear hI0 hrun7 hT7 hok hcw hct hE7 hE07 hclo hroot HBX5 HW5 HE5 HG HGF
        gi_wp2_with fail
        refine wpIn_tells_nd (Safe := fun _ k => k ≠ wr.heap.size) (by omega) (gf := 65) (lb := #[.pointer (some ⟨bw, 0, none⟩), .pointer (some ⟨btb, 0, none⟩)]) rfl (enters_of Tryd.func65 (by kernel_rfl) rfl) TT.out (show 107 < 127 by decide) (show 14 < 127 by decide) (by decide)
          (BkI W7.heap.size wr.heap.size w W7) (fun _ _ _ => False) (fun _ _ _ _ h => h) ?hI ?hIx HI0.out ?body ?done ?stop
        case hI =>
          intro pre X Y hX hTn
          exact ⟨hX.turn hTn (by omega), fun k hk => by have := hX.size; omega⟩
        case hIx => exact fun _ _ _ _ h _ => h
        case stop => exact fun _ _ _ _ _ _ h => h.elim
        case body =>
          rintro l pre n da dc aa ac bl W hl0 hrec ⟨rest, hSp⟩ hIW hG hbl
          simp only [List.setIfInBounds_toArray, List.set_cons_succ, List.set_cons_zero]
          obtain ⟨vs, v, hbo, hrow, heach⟩ := hIW.row
          have hpl : pre.length + 1 ≤ M.length := by
            have := congrArg List.length hSp
            simp at this
            omega
          have hszW := hIW.size
          obtain ⟨la, lc, rfl, _, _, hRm, _⟩ := RowsOf.of_own (S := fun k => k < W.heap.size) hrow (L := (pre.map (·.2)).reverse) (by simp) heach.1 (fun k _ h => h) fun j cs hj => by
            obtain ⟨m, hm, hN⟩ := heach.2 j cs hj
            exact ⟨m, hm, NdS.imp hN (fun k hk => hk.1) fun _ _ _ _ h => h⟩
          have hv : W.cell? ⟨wr.heap.size, 0, none⟩ = some (.slice la pre.length lc) := cell_of_row _ _ _ _ _ _ hbo
          have hEA := Ext.alloc W (.cells (ndC n (.slice da n.data.length dc) (.slice aa n.acl.length ac)) 37)
          have hRm2 := hRm.imp (S' := fun k => k < (W.alloc (.cells (ndC n (.slice da n.data.length dc) (.slice aa n.acl.length ac)) 37)).heap.size) (fun k hk => Nat.lt_of_lt_of_le hk hEA.size) fun k hk => hEA.block k hk
          have hsrc := hRm2.src_to (i := pre.length) (cap := lc) (by simp) fun k hk => hk
          rw [List.take_of_length_le (by have := heach.1; simp at this; omega)] at hsrc
          have hown2 := ownsRow_fresh W (ndC n (.slice da n.data.length dc) (.slice aa n.acl.length ac)) rfl
          obtain ⟨i0, hi, hz0, hz1', hz2⟩ := info_parts infoNd
          have hv2 := cellE hEA hv
          have HBL := Lib.hid hbl
          have HBO := Lib.hid hbo
          have HG := Lib.hid hG
          have HIW := Lib.hid hIW
          have HEACH := Lib.hid heach
          unfold ndC at HBL hown2 hsrc hv2
          clear hbl hbo hG hIW heach hRm hRm2 hrow TT HI0 hSp hEA
          gi_wp2_with (first | (refine wpListIn_load_row (fun _ => trivial) rfl 37 (.tmp 14) rfl bl rfl 37 _ (0, 0) _ HBL.out Tryd.underlying37 rfl sizeNd ?_) | (gi_at_builtin; refine wpListIn_append_src (fun _ => trivial) rfl (.tmp 109) (.tmp 110) 22 22 rfl W.heap.size 37 i0 (.agg zeroNd) 17 168 Tryd.underlying22 hi hz0 hz1' hz2 rfl (by decide) _ 1 _ rfl hown2 _ pre.length _ rfl hsrc ?c1 ?c2 ?c3 ?_))
          case c1 => unfold maxLen; omega
          case c2 => omega
          intro v' w5 hown5 hg5 _ ho5
          have hown5 : w5.ownsRow W.heap.size 37 17 v' (1 + pre.length) ((ndC n (.slice da n.data.length dc) (.slice aa n.acl.length ac)).toList ++ vs.flatMap Array.toList) := hown5
          have hz55 := hg5.size
          simp only [World.size_alloc] at hz55
          have hEW5 : Ext W w5 := ⟨hg5.os, hg5.tape, hg5.output, by omega, fun k hk => (hg5.block k (by simp; omega) (fun e => by simp [Value.ownBlock] at e; omega)).trans (heap_alloc_old W _ hk)⟩
          have hbo5 := (hEW5.block _ (by omega)).trans HBO.out
          have hbo6 := setRow_heap w5 wr.heap.size _ #[v'] _ _ hbo5
          have hK : Kp W7.heap.size wr.heap.size W (w5.setRow wr.heap.size #[v']) := (Kp.ext hEW5).trans (Kp.set w5 #[v'] (by omega))
          have hIN : BkI W7.heap.size wr.heap.size w W7 (pre ++ [(.agg (ndC n (.slice da n.data.length dc) (.slice aa n.acl.length ac)), n)]) (w5.setRow wr.heap.size #[v']) := by
            have hcell : ∀ (b o : Nat) u, b ≠ wr.heap.size → W.cell? ⟨b, o, none⟩ = some u → (w5.setRow wr.heap.size #[v']).cell? ⟨b, o, none⟩ = some u := fun b o u hb hu =>
              (World.cell?_of_block (setRow_other _ _ _ _ hb)).trans (cellE hEW5 hu)
            refine ⟨⟨ndC n (.slice da n.data.length dc) (.slice aa n.acl.length ac) :: vs, v', hbo6, ?_, ?_⟩, fun k c e f hk hn => (setRow_other _ _ _ _ hn).trans ((hEW5.block k (Array.getElem?_eq_some_iff.1 (HIW.out.cells k c e f hk hn)).1).trans (HIW.out.cells k c e f hk hn)), by simp; omega, ?_⟩
            · have h1 := ownsRow_base_a hown5 hszW
              have h2 := row_at h1 (w' := w5.setRow wr.heap.size #[v']) fun g c hg' hc => (setRow_other _ _ _ _ (fun e => by have := ownBlock_ge h1 g hg'; omega)).trans hc
              rw [Nat.add_comm] at h2
              simpa using h2
            · have hone : EachN (fun k => k < (w5.setRow wr.heap.size #[v']).heap.size ∧ k ≠ wr.heap.size) (w5.setRow wr.heap.size #[v']) [ndC n (.slice da n.data.length dc) (.slice aa n.acl.length ac)] [n] :=
                EachN.one (NdS.imp HG.out (fun k hk => ⟨by have := hk.2; simp; omega, hk.1⟩) fun b o u hb hu => hcell b o u hb.1 hu)
              have hold := HEACH.out.imp (S' := fun k => k < (w5.setRow wr.heap.size #[v']).heap.size ∧ k ≠ wr.heap.size) (w' := w5.setRow wr.heap.size #[v']) (fun k hk => ⟨by have := hk.1; simp; omega, hk.2⟩) fun b o u hb hu => hcell b o u hb.2 hu
              have := EachN.append hone hold
              simpa using this
            · refine HIW.out.keep.trans ((hEW5.mono HIW.out.keep.size).trans ⟨rfl, rfl, rfl, by simp, fun k hk => setRow_other _ _ _ _ (by omega)⟩)
          have HIN := Lib.hid hIN
          have HK := Lib.hid hK
          have HB5 := Lib.hid hbo5
          obtain ⟨la', lc', rfl, _⟩ := ownsRow_from hown5
          clear hIN hK hbo5 hbo6 hEW5 hown5 hg5 ho5 hsrc hown2
          refine wpListIn_skipped (fun _ => trivial) rfl (fun c h => by cases h) (run_store_one 22 (.tmp 12) (.tmp 111) rfl wr.heap.size (.slice la' (1 + pre.length) lc') rfl rfl rfl 22 _ HB5.out infoSl) ?_
          gi_wp2
          exact ⟨HK.out.recs, HK.out.cells, HIN.out⟩
        case done =>
          rintro D xs W hD hS hIW hK
          have hxs : xs.map (·.2) = M.map (·.2) := hS
          obtain ⟨vs, v, hbo, hrow, heach⟩ := hIW.row
          have hxl : xs.length = M.length := by have := congrArg List.length hxs; simpa using this
          rw [hxs] at heach
          rw [hxl] at hrow
          obtain ⟨la, lc, rfl, _, _, hRm, _⟩ := RowsOf.of_own (S := fun k => k < W.heap.size) hrow (L := (M.map (·.2)).reverse) (by simp) heach.1 (fun k _ h => h) fun j cs hj => by
            obtain ⟨m, hm, hN⟩ := heach.2 j cs hj
            exact ⟨m, hm, NdS.imp hN (fun k hk => hk.1) fun _ _ _ _ h => h⟩
          have hszW := hIW.size
          have hfit : ∀ m ∈ (M.map (·.2)).reverse, Fit m := fun m hm => by
            obtain ⟨x, hx, rfl⟩ := List.mem_map.1 (List.mem_reverse.1 hm)
            exact (right_fit (HOK.out.right x hx)).1
          have CF := from_any (M.map (·.2)).reverse la lc W (HT.out.below hIW.keep hsz) (hRm.nds fun _ h => h) hfit (by simp; omega)
          have hrl : (M.map (·.2)).reverse.length = M.length := by simp
          rw [hrl] at CF
          have CF := Lib.hid CF
          have hv : W.cell? ⟨wr.heap.size, 0, none⟩ = some (.slice la M.length lc) := cell_of_row _ _ _ _ _ _ hbo
          have hrunW : RunAt W br (digV M) := hIW.cells br _ _ _ HRUN7.out (by omega)
          have HRUNW := Lib.hid hrunW
          have HKW := Lib.hid hK
          have HKEEP := Lib.hid hIW.keep
          clear hbo hrow heach hRm hfit hrunW hK hIW HI0 TT HRUN7 hS hxs
          gi_wp2_with fail
          refine ⟨trivial, (callsIn_wide.2 CF.out).mono ?_⟩
          intro e W8 hout
          unfold FromOut at hout
          rw [back_from HOK.out HCLO.out HROOT.out] at hout
          obtain ⟨bu, rfl, hTu, hE8⟩ := hout
          have hE8 : Ext W W8 := hE8
          have hB8 := HKEEP.out.trans (hE8.mono HKEEP.out.size)
          have CO := Lib.hid (dof_any _ W8 bu M _ hTu (HT.out.below hB8 hsz) (by omega))
          have HE8 := Lib.hid hE8
          clear CF hTu hE8 hB8
          gi_wp2_with fail
          refine ⟨trivial, (callsIn_wide.2 CO.out).mono ?_⟩
          rintro e W9 ⟨rfl, hE9⟩
          have hE89 : Ext W W9 := HE8.out.trans hE9
          have CV := Lib.hid (value_any br (digV M) W9 ((hE89.block br (Array.getElem?_eq_some_iff.1 HRUNW.out).1).trans HRUNW.out))
          have HE9 := Lib.hid hE89
          rw [show addN 0 (M.map (·.2)) = digV M from rfl]
          generalize digV M = dv at *
          clear CO hE9 hE89
          gi_wp2_with fail
          refine ⟨trivial, (callsIn_wide.2 CV.out).mono ?_⟩
          rintro e W9' ⟨rfl, rfl⟩
          have hK9 : W9.heap[D]? = some (.deferred (some [])) := (HE9.out.block D (Array.getElem?_eq_some_iff.1 HKW.out).1).trans HKW.out
          have hB9 := HKEEP.out.trans (HE9.out.mono HKEEP.out.size)
          have hfin : Below w.heap.size w (W9.putObj D (.deferred none)) := hB9.trans ((Turn.putObj (B := W7.heap.size) (.deferred none) hD hK9 rfl).below (by omega) hB9.size)
          have HFIN := Lib.hid hfin
          have HK9 := Lib.hid hK9
          clear hfin hK9 hB9 CV
          gi_wp2
          refine ⟨by simp, .inl ⟨_, _, rfl, run_takeDeferred HK9.out, ?_⟩⟩
          exact ⟨_, results_tmp rfl _ _ _, rfl, HFIN.out⟩
end Go.Proofs.YtamolbegmkngdaaDoor
