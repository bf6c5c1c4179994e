/- The walk of stat.Same at any two nodes. The walk of the program's Diff. The walk of paths.Under. The walks of Parted, the program's and the document's. The walk of layer 9's two: two trees of the program's, two of the document's. The walks of maps.EqualFunc at two maps of the same nodes, and of tree.Same. The walks of maps.EqualFunc at any two maps of nodes, of tree.Same and of arborref07's Same at any two trees. -/
import Derived.Test.YthinpbdbhijbgaaGreatDoorJDigestFinds11
import Derived.Test.YthinpbdbhijbgaaGreatDoorJDigestFinds12
import Derived.Test.YthinpbdbhijbgaaGreatDoorJDigestFinds13
import Derived.Test.YthinpbdbhijbgaaGreatDoorJDigestFinds14
import Derived.Test.YthinpbdbhijbgaaGreatDoorJDigestFinds9
import Derived.Test.YthinpbdbhijbgaaGreatDoorJDigestFinds4
import Derived.Test.YthinpbdbhijbgaaGreatDoorJDigestFinds5
import Derived.Test.YthinpbdbhijbgaaGreatDoorJDigestFinds8
import Derived.Test.YthinpbdbhijbgaaGreatDoorJDigestFinds10
import Derived.Test.YthinpbdbhijbgaaGreatDoorJDigestFinds7
namespace Go.Proofs.YthinpbdbhijbgaaGreatDoor
open Go.RowKit

theorem ssame_any (x y : Nd) (da aa db ab : Option Addr) (dc ac dd ad : Nat) (w : World) (hf : Fit x) (hf' : Fit y) (hD : Cells w.heap.size w da (x.data.map u8v)) (hA : Cells w.heap.size w aa (acCs x.acl)) (hD' : Cells w.heap.size w db (y.data.map u8v)) (hA' : Cells w.heap.size w ab (acCs y.acl)) :
    Calls Tryz.prog 98 #[.agg (ndC x (.slice da x.data.length dc) (.slice aa x.acl.length ac)), .agg (ndC y (.slice db y.data.length dd) (.slice ab y.acl.length ad))] w fun e w' => e = .returned (.bool (sameN x y)) ∧ Below w.heap.size w w' := by
  by_cases hxy : x = y
  · subst hxy
    rw [sameN_self]
    exact ssame_self x da aa db ab dc ac dd ad w hf hD hA hD' hA'
  rw [sameN_not hxy]
  by_cases q0 : x.data = y.data ∧ x.acl = y.acl ∧ x.path = y.path ∧ x.owner = y.owner
  rotate_left
  · exact ssame_p1 x y da aa db ab dc ac dd ad w hf hf' hD hA hD' hA' q0
  obtain ⟨h_data, h_acl, h_path, h_owner⟩ := q0
  by_cases q1 : x.czxid = y.czxid ∧ x.mzxid = y.mzxid ∧ x.pzxid = y.pzxid ∧ x.azxid = y.azxid
  rotate_left
  · exact ssame_p2 x y da aa db ab dc ac dd ad w hf hf' hD hA hD' hA' h_data h_acl h_path h_owner q1
  obtain ⟨h_czxid, h_mzxid, h_pzxid, h_azxid⟩ := q1
  by_cases q2 : x.qzxid = y.qzxid ∧ x.ctime = y.ctime ∧ x.mtime = y.mtime ∧ x.version = y.version
  rotate_left
  · exact ssame_p3 x y da aa db ab dc ac dd ad w hf hf' hD hA hD' hA' h_data h_acl h_path h_owner h_czxid h_mzxid h_pzxid h_azxid q2
  obtain ⟨h_qzxid, h_ctime, h_mtime, h_version⟩ := q2
  refine ssame_p4 x y da aa db ab dc ac dd ad w hf hf' hD hA hD' hA' h_data h_acl h_path h_owner h_czxid h_mzxid h_pzxid h_azxid h_qzxid h_ctime h_mtime h_version fun q => hxy ?_
  obtain ⟨h_creates, h_aversion, h_has, h_count, h_bytes⟩ := q
  cases x; cases y
  simp_all
end Go.Proofs.YthinpbdbhijbgaaGreatDoor
namespace Go.Proofs.YthinpbdbhijbgaaGreatDoor
open Go.RowKit Go.Sort
set_option maxHeartbeats 8000000
set_option maxRecDepth 100000
attribute [local go_sem] Oper.semAt_some

theorem KeepsRec.all {B : Nat} {W W' : World} (h : KeepsRec 0 W W') : KeepsRec B W W' := ⟨h.size, fun k o _ hk hr => h.same k o (Nat.zero_le _) hk hr⟩
theorem partA_none {B : List (Key × Nd)} {n : Nd} (h : mget B n.path.data.toList = none) : partA B (keyN n, n) = [(keyN n, 1)] := by
  have h : mget B (keyN n, n).1 = none := h
  unfold partA; rw [h]
theorem partA_some {B : List (Key × Nd)} {n y : Nd} (h : mget B n.path.data.toList = some y) : partA B (keyN n, n) = if sameN n y = true then [] else [(keyN n, 3)] := by
  have h : mget B (keyN n, n).1 = some y := h
  unfold partA; rw [h]
theorem partB_none {A : List (Key × Nd)} {n : Nd} (h : mget A n.path.data.toList = none) : partB A (keyN n, n) = [(keyN n, 2)] := by
  have h : mget A (keyN n, n).1 = none := h
  unfold partB; rw [h]
theorem partB_some {A : List (Key × Nd)} {n y : Nd} (h : mget A n.path.data.toList = some y) : partB A (keyN n, n) = [] := by
  have h : mget A (keyN n, n).1 = some y := h
  unfold partB; rw [h]
theorem nd_of {M : List (Key × Nd)} (hM : MOk M) {n : Nd} (h : n ∈ nds M) : Fit n ∧ n.path.size ≤ 4096 := by
  obtain ⟨x, hx, rfl⟩ := List.mem_map.1 h
  have hr := hM.right x hx
  exact ⟨(right_fit hr).1, (vpath_facts (right_vpath hr)).2.1⟩
theorem diff_keys {A B : List (Key × Nd)} (hA : MOk A) (hB : MOk B) : ∀ z ∈ partsP A B, z.1.length ≤ maxLen := fun z hz => by
  have h := (partsP_mem hA.sorted hB.sorted z.1 z.2).1 hz
  have key : ∀ {M : List (Key × Nd)}, MOk M → ∀ {v : Nd}, mget M z.1 = some v → z.1.length ≤ maxLen := fun {M} hM {v} hv => by
    obtain ⟨h1, h2⟩ := hM.at hv
    have := (vpath_facts (right_vpath h2)).2.1
    rw [h1]; unfold keyN; rw [size_list]; unfold maxLen; omega
  cases ha : mget A z.1 with
  | some v => exact key hA ha
  | none =>
    cases hb : mget B z.1 with
    | some v => exact key hB hb
    | none => rw [ha, hb] at h; cases h
theorem PrtsAt.turn {B : Nat} {X Y : World} {a : Option Addr} {L : List (Key × Int)} (h : PrtsAt X a L) (hT : Turn B X Y) : PrtsAt Y a L := fun i z hz => by
  obtain ⟨b, off, e, hb, h1, h2⟩ := h i z hz
  exact ⟨b, off, e, Nat.lt_of_lt_of_le hb hT.size, hT.cell h1, hT.cell h2⟩
/-- What is told behind the sort. -/
theorem diff_out {A B : List (Key × Nd)} (hA : MOk A) (hB : MOk B) {w W : World} {v : Value} {a : Option Addr} {n c : Nat} {D' : List (Key × Int)} (hv : v = .slice a n c) (hn : n = (partsP A B).length) (hp : D'.Perm (partsP A B)) (hs : D'.Pairwise fun x y => bytesBefore y.1 x.1 = false) (hP : PrtsAt W a D') (hE : Ext w W) : DiffOut (diffM A B) w (.returned v) W := by
  obtain rfl := parts_sorted hA.sorted hB.sorted hp hs
  rw [← hp.length_eq] at hn
  subst hn hv
  exact ⟨a, c, rfl, hP, hE⟩

theorem pdiff_any (pa pb : Option Addr) (A B : List (Key × Nd)) (w : World) (hA : MOk A) (hB : MOk B) (hAa : AllsO (.pointer pa) A w (w.heap.size + 1 + 1)) (hAb : AllsO (.pointer pb) B w (w.heap.size + 1 + 1)) (hGa : GetsM (.pointer pa) A w) (hGb : GetsM (.pointer pb) B w) (hlA : A.length * 168 ≤ 140737488355328) (hlB : B.length * 168 ≤ 140737488355328) :
    Calls Tryz.prog 47 #[.pointer pa, .pointer pb] w (DiffOut (diffM A B) w) := by
  obtain ⟨Wa, hWa⟩ : ∃ Wa, Wa = w.alloc (.cells #[.pointer pa] 37) := ⟨_, rfl⟩
  obtain ⟨Wb, hWb⟩ : ∃ Wb, Wb = Wa.alloc (.cells #[.pointer pb] 37) := ⟨_, rfl⟩
  obtain ⟨Wc, hWc⟩ : ∃ Wc, Wc = Wb.alloc (.cells #[.slice none 0 0] 83) := ⟨_, rfl⟩
  have hEa : Ext w Wa := by rw [hWa]; exact Ext.alloc _ _
  have hEb : Ext Wa Wb := by rw [hWb]; exact Ext.alloc _ _
  have hEc : Ext Wb Wc := by rw [hWc]; exact Ext.alloc _ _
  have hza : Wa.heap.size = w.heap.size + 1 := by rw [hWa]; simp
  have hzb : Wb.heap.size = w.heap.size + 1 + 1 := by rw [hWb]; simp [hza]
  have hzc : Wc.heap.size = w.heap.size + 1 + 1 + 1 := by rw [hWc]; simp [hzb]
  have g1 : Wc.heap[w.heap.size]? = some (.cells #[.pointer pa] 37 (0, 0)) := ((hEb.trans hEc).block w.heap.size (by omega)).trans (by rw [hWa]; exact heap_alloc_new w _)
  have g2 : Wc.heap[w.heap.size + 1]? = some (.cells #[.pointer pb] 37 (0, 0)) := (hEc.block (w.heap.size + 1) (by omega)).trans (by rw [hWb, ← hza]; exact heap_alloc_new Wa _)
  have g3 : Wc.heap[w.heap.size + 1 + 1]? = some (.cells #[.slice none 0 0] 83 (0, 0)) := by rw [hWc, ← hzb]; exact heap_alloc_new Wb _
  have hEw : Ext w Wc := hEa.trans (hEb.trans hEc)
  have C1 := Lib.hid (hAa Wc (.slice none 0 0) hEw (cell_of_row _ _ _ _ _ _ g3) (fun k h => by simp [Value.ownBlock] at h))
  have hWd : (((w.alloc (.cells #[.pointer pa] 37)).alloc (.cells #[.pointer pb] 37)).alloc (.cells #[.slice none 0 0] 83)) = Wc := by rw [hWc, hWb, hWa]
  have HWD := Lib.hid hWd
  have HA := Lib.hid hA
  have HB := Lib.hid hB
  have HAB := Lib.hid hAb
  have HGA := Lib.hid hGa
  have HGB := Lib.hid hGb
  have HEW := Lib.hid hEw
  have HI0 := Lib.hid (And.intro g1 (And.intro g2 g3))
  have hzW : w.heap.size + 1 + 1 < Wc.heap.size := by omega
  clear hA hB hAa hAb hGa hGb g1 g2 g3 hEw hEa hEb hEc hWd hWa hWb hWc hza hzb hzc
  clear Wa Wb
  refine (callsIn_wide (n := 6)).1 (callsIn_of_wp_marks Tryz.func47 rfl trivial ?_)
  simp only [Tryz.ntmps47, List.size_toArray, List.length_cons, List.length_nil, Nat.reduceAdd, Nat.reduceSub, Array.replicate_succ, Array.replicate_zero, List.push_toArray, List.append_toArray, List.nil_append, List.cons_append]
  gi_wp2_with fail
  rw [HWD.out]
  refine ⟨trivial, (callsIn_wide.2 C1.out).mono ?_⟩
  rintro e W1 ⟨bw, btb, rfl, TT, hE1⟩
  have hE1 : Ext Wc W1 := hE1
  obtain ⟨g1, g2, g3⟩ := HI0.out
  have hz1 := hE1.size
  have hEw1 := HEW.out.trans hE1
  have hI0 : DfI W1.heap.size (w.heap.size + 1 + 1) w.heap.size (w.heap.size + 1) (.pointer pa) (.pointer pb) w (parA B []) W1 :=
    ⟨⟨_, (hE1.block _ (by omega)).trans g3, World.ownsRow_nil _ _ _ _⟩, (hE1.block _ (by omega)).trans g1, (hE1.block _ (by omega)).trans g2, Nat.le_refl _, hEw1⟩
  have hnn := told_not_nil #[.pointer (some ⟨bw, 0, none⟩), .pointer (some ⟨btb, 0, none⟩)] W1
  have TT := Lib.hid TT
  have HI1 := Lib.hid hI0
  have HE1 := Lib.hid hEw1
  have hzw1 : w.heap.size + 1 + 1 < W1.heap.size := by omega
  clear hI0 hEw1 g1 g2 g3 C1 HWD HI0 hE1 hzW hz1
  gi_wp2
  refine wpIn_tells_nd (Safe := SafeO (w.heap.size + 1 + 1)) (by omega) (gf := 195) (lb := #[.pointer (some ⟨bw, 0, none⟩), .pointer (some ⟨btb, 0, none⟩)]) rfl (enters_of Tryz.func195 (by kernel_rfl) rfl) TT.out (show 14 < 63 by decide) (show 6 < 63 by decide) (by decide)
    (fun pre W => DfI W1.heap.size (w.heap.size + 1 + 1) w.heap.size (w.heap.size + 1) (.pointer pa) (.pointer pb) w (parA B (pre.map (·.2))) W) (fun _ _ _ => False) (fun _ _ k hT h => h.turn hT) ?hI ?hIx HI1.out ?body ?done ?stop
  case hI =>
    intro pre X Y hX hTn
    exact hX.turn hTn (by omega) (by omega)
  case hIx => exact fun _ _ _ _ h _ => h
  case stop => exact fun _ _ _ _ _ _ h => h.elim
  case body =>
    rintro l pre n da dc aa ac bl W hl0 hrec ⟨rest, hSp⟩ hIW hG hbl
    simp only [List.setIfInBounds_toArray, List.set_cons_succ, List.set_cons_zero]
    have hp0 : W.cell? ⟨bl, 0, none⟩ = some (.string n.path) := cell_of_row _ _ _ _ _ _ hbl
    have hc2 : W.cell? ⟨w.heap.size + 1, 0, none⟩ = some (.pointer pb) := cell_of_row _ _ _ _ _ _ hIW.c2
    obtain ⟨ov, hov, hrow⟩ := hIW.ex
    have hpre : (pre ++ [(Value.agg (ndC n (.slice da n.data.length dc) (.slice aa n.acl.length ac)), n)]).map (·.2) = pre.map (·.2) ++ [n] := by simp
    have hSp : (pre.map (·.2) ++ [n]) ++ rest = nds A := by rw [← hpre]; exact hSp
    have hmem : n ∈ nds A := by rw [← hSp]; simp
    obtain ⟨hfit, hps⟩ := nd_of HA.out hmem
    have hlen : (parA B (pre.map (·.2))).length + 1 ≤ A.length := by
      have h1 := parA_len B (pre.map (·.2))
      have h2 := congrArg List.length hSp
      rw [nds_length] at h2
      simp only [List.length_append, List.length_cons, List.length_nil] at h2
      omega
    have hsn := parA_snoc B (pre.map (·.2)) n
    have CG := Lib.hid (HGB.out W n.path hIW.keep (by omega))
    obtain ⟨hDW, hAW⟩ := nds_parts hG
    have HDW := Lib.hid (hDW.cells fun b hb => hb.2)
    have HAW := Lib.hid (hAW.cells fun b hb => hb.2)
    have HPRE := Lib.hid hpre
    have HSN := Lib.hid hsn
    have HIW := Lib.hid hIW
    have HOV := Lib.hid hov
    have HROW := Lib.hid hrow
    have HBL := Lib.hid hbl
    have HFIT := Lib.hid hfit
    have hsz := hIW.size
    generalize parA B (pre.map (·.2)) = P at *
    clear hSp hmem hsn hpre hIW hG hDW hAW hov hrow hbl hfit
    refine wpIn_block ?_
    gi_wp2_with fail
    refine ⟨trivial, (callsIn_wide.2 CG.out).mono ?_⟩
    rintro e W3 ⟨v3, rfl, hv3, hE3⟩
    obtain ⟨db, eb, ab, fb, X3, e0, hset3, hbx3, hEX3, hD3, hA3⟩ := box_node hv3 fun b hb => hb.2
    subst e0
    have hE3 : Ext W W3 := hE3
    have hEW3 := hE3.trans hEX3
    have hp3 : X3.cell? ⟨bl, 0, none⟩ = some (.string n.path) := (hEW3.cell (World.block_lt_of_cell? _ _ hp0)).trans hp0
    have hov3 : X3.cell? ⟨w.heap.size + 1 + 1, 0, none⟩ = some ov := by
      rw [(hEW3.cell (p := ⟨w.heap.size + 1 + 1, 0, none⟩) (by show w.heap.size + 1 + 1 < W.heap.size; omega))]
      exact cell_of_row _ _ _ _ _ _ HOV.out
    have HO3 := Lib.hid (World.ownsRow.kept HROW.out (grown_of_ext hEW3 none) (Classical.em _))
    have HE3 := Lib.hid hEW3
    have hz3 : W1.heap.size ≤ X3.heap.size := Nat.le_trans hsz hEW3.size
    have HSET3 := Lib.hid hset3
    have HNEW3 := Lib.hid (heap_alloc_new W3 (.cells zeroNd 44))
    have HBX3 := Lib.hid hbx3
    have HBL3 := Lib.hid ((hEW3.block bl (Array.getElem?_eq_some_iff.1 HBL.out).1).trans HBL.out)
    have HD3 := Lib.hid hD3
    have HA3 := Lib.hid hA3
    generalize hy : (mget B n.path.data.toList).getD zeroN = y at *
    have HY := Lib.hid hy
    unfold ndC at HSET3 HBX3 HBL3 ⊢
    unfold zeroNd at HSET3 HNEW3
    clear CG hE3 hEW3 hset3 hbx3 hEX3 hD3 hA3 hv3 hp0 hc2 hy HBL
    cases hg : mget B n.path.data.toList with
    | none =>
      have HP := Lib.hid (show parA B ((pre ++ [(Value.agg (ndC n (.slice da n.data.length dc) (.slice aa n.acl.length ac)), n)]).map (·.2)) = P ++ [(keyN n, 1)] by rw [HPRE.out, HSN.out, partA_none hg])
      clear hg HPRE HSN HY HBX3 HBL3
      gi_wp2_with (first | (refine wpListIn_store_row (fun _ => trivial) rfl 44 (.tmp 7) (.tmp 20) rfl W3.heap.size _ rfl rfl 44 _ HNEW3.out sizeNd rfl (cells_node _ db ab _ _ eb fb) ?_; rw [HSET3.out]) | (gi_at_builtin; refine wpListIn_append_k (fun _ => trivial) 90 83 Tryz.underlying83 infoPt rfl (.tmp 25) (.tmp 29) rfl W1.heap.size P _ HO3.out hz3 (keyN n, 1) n.path rfl (by omega) rfl rfl ?_))
      intro v' W6 hO6 ho6 hg6
      obtain ⟨hI6, hR6, hK6, hbo6⟩ := dfI_step HIW.out (by omega) (by omega) (by omega) (by omega) (by omega) (by omega) HE3.out HOV.out HROW.out hO6 hg6 ho6 0
      have hI6 : DfI W1.heap.size (w.heap.size + 1 + 1) w.heap.size (w.heap.size + 1) (.pointer pa) (.pointer pb) w (parA B ((pre ++ [(Value.agg (ndC n (.slice da n.data.length dc) (.slice aa n.acl.length ac)), n)]).map (·.2))) (W6.setRow (w.heap.size + 1 + 1) #[v']) := by rw [HP.out]; exact hI6
      obtain ⟨la, lc, rfl, _⟩ := ownsRow_from hO6
      have HB6 := Lib.hid hbo6
      have HFIN := Lib.hid (And.intro (KeepsRec.all (B := W1.heap.size) hR6) (And.intro hK6 hI6))
      clear hbo6 hI6 hR6 hK6 hO6 hg6 ho6
      refine wpListIn_skipped (fun _ => trivial) rfl (fun c h => by cases h) (run_store_one 83 (.tmp 5) (.tmp 30) rfl (w.heap.size + 1 + 1) (.slice la (P.length + 1) lc) rfl rfl rfl 83 ov HB6.out infoPs) ?_
      gi_wp2
      exact HFIN.out
    | some y0 =>
      have hyy : y0 = y := by have := HY.out; rw [hg] at this; exact this
      subst hyy
      have hfy : Fit y0 := (right_fit (HB.out.at hg).2).1
      have CS := Lib.hid (ssame_any n y0 da aa db ab dc ac eb fb X3 HFIT.out hfy (HDW.out.ext HE3.out) (HAW.out.ext HE3.out) HD3.out HA3.out)
      have HPS := Lib.hid (show parA B ((pre ++ [(Value.agg (ndC n (.slice da n.data.length dc) (.slice aa n.acl.length ac)), n)]).map (·.2)) = P ++ (if sameN n y0 = true then [] else [(keyN n, 3)]) by rw [HPRE.out, HSN.out, partA_some hg])
      unfold ndC at CS
      clear hg HPRE HSN HY hfy HD3 HA3
      gi_wp2_with (first | (refine wpListIn_store_row (fun _ => trivial) rfl 44 (.tmp 7) (.tmp 20) rfl W3.heap.size _ rfl rfl 44 _ HNEW3.out sizeNd rfl (cells_node _ db ab _ _ eb fb) ?_; rw [HSET3.out]) | (refine wpListIn_load_row (fun _ => trivial) rfl 44 (.tmp 6) rfl bl rfl 44 _ (0, 0) _ HBL3.out Tryz.underlying44 rfl sizeNd ?_) | (refine wpListIn_load_row (fun _ => trivial) rfl 44 (.tmp 7) rfl W3.heap.size rfl 44 _ (0, 0) _ HBX3.out Tryz.underlying44 rfl sizeNd ?_))
      refine ⟨trivial, (callsIn_wide.2 CS.out).mono ?_⟩
      rintro e X4 ⟨rfl, hE4⟩
      have hE4 : Ext X3 X4 := hE4
      have hE04 := HE3.out.trans hE4
      have hp4 : X4.cell? ⟨bl, 0, none⟩ = some (.string n.path) := (hE4.cell (World.block_lt_of_cell? _ _ hp3)).trans hp3
      have hov4 : X4.cell? ⟨w.heap.size + 1 + 1, 0, none⟩ = some ov := (hE4.cell (World.block_lt_of_cell? _ _ hov3)).trans hov3
      have HO4 := Lib.hid (World.ownsRow.kept HO3.out (grown_of_ext hE4 none) (Classical.em _))
      have hz4 : W1.heap.size ≤ X4.heap.size := Nat.le_trans hz3 hE4.size
      have HE4 := Lib.hid hE04
      clear CS hE4 hE04 hp3 hov3 HO3 HSET3 HNEW3 HBX3 HBL3
      cases hs : sameN n y0 with
      | true =>
        have hP : parA B ((pre ++ [(Value.agg (ndC n (.slice da n.data.length dc) (.slice aa n.acl.length ac)), n)]).map (·.2)) = P := by rw [HPS.out, if_pos hs, List.append_nil]
        have hk := keeps_ext (bo := w.heap.size + 1 + 1) (B' := W1.heap.size) HE4.out
        have hI6 : DfI W1.heap.size (w.heap.size + 1 + 1) w.heap.size (w.heap.size + 1) (.pointer pa) (.pointer pb) w (parA B ((pre ++ [(Value.agg (ndC n (.slice da n.data.length dc) (.slice aa n.acl.length ac)), n)]).map (·.2))) X4 := by rw [hP]; exact HIW.out.ext HE4.out (by omega)
        have HFIN := Lib.hid (And.intro hk.1 (And.intro hk.2 hI6))
        clear hs hP hk hI6 hp4 hov4
        gi_wp2
        exact HFIN.out
      | false =>
        have HP := Lib.hid (show parA B ((pre ++ [(Value.agg (ndC n (.slice da n.data.length dc) (.slice aa n.acl.length ac)), n)]).map (·.2)) = P ++ [(keyN n, 3)] by rw [HPS.out, if_neg (by rw [hs]; simp)])
        clear hs HPS
        gi_wp2_with (gi_at_builtin; refine wpListIn_append_k (fun _ => trivial) 90 83 Tryz.underlying83 infoPt rfl (.tmp 36) (.tmp 40) rfl W1.heap.size P _ HO4.out hz4 (keyN n, 3) n.path rfl (by omega) rfl rfl ?_)
        intro v' W6 hO6 ho6 hg6
        obtain ⟨hI6, hR6, hK6, hbo6⟩ := dfI_step HIW.out (by omega) (by omega) (by omega) (by omega) (by omega) (by omega) HE4.out HOV.out HROW.out hO6 hg6 ho6 0
        have hI6 : DfI W1.heap.size (w.heap.size + 1 + 1) w.heap.size (w.heap.size + 1) (.pointer pa) (.pointer pb) w (parA B ((pre ++ [(Value.agg (ndC n (.slice da n.data.length dc) (.slice aa n.acl.length ac)), n)]).map (·.2))) (W6.setRow (w.heap.size + 1 + 1) #[v']) := by rw [HP.out]; exact hI6
        obtain ⟨la, lc, rfl, _⟩ := ownsRow_from hO6
        have HB6 := Lib.hid hbo6
        have HFIN := Lib.hid (And.intro (KeepsRec.all (B := W1.heap.size) hR6) (And.intro hK6 hI6))
        clear hbo6 hI6 hR6 hK6 hO6 hg6 ho6
        refine wpListIn_skipped (fun _ => trivial) rfl (fun c h => by cases h) (run_store_one 83 (.tmp 5) (.tmp 41) rfl (w.heap.size + 1 + 1) (.slice la (P.length + 1) lc) rfl rfl rfl 83 ov HB6.out infoPs) ?_
        gi_wp2
        exact HFIN.out
  case done =>
    rintro D1 xs W hD1 hS hIW hK1
    obtain ⟨ov, hov, hrow⟩ := hIW.ex
    have hvc : W.cell? ⟨w.heap.size + 1 + 1, 0, none⟩ = some ov := cell_of_row _ _ _ _ _ _ hov
    have hc2 : W.cell? ⟨w.heap.size + 1, 0, none⟩ = some (.pointer pb) := cell_of_row _ _ _ _ _ _ hIW.c2
    have C2 := Lib.hid (HAB.out W ov hIW.keep hvc (fun k e => by have := ownBlock_ge hrow k e; omega))
    have hPA : parA B (xs.map (·.2)) = parA B (nds A) := by rw [hS]
    rw [hPA] at hIW
    have HIW := Lib.hid hIW
    have HK1 := Lib.hid hK1
    have hd1 := (Array.getElem?_eq_some_iff.1 hK1).1
    have hzW := hIW.size
    clear hPA hIW hK1 hov hrow hvc hS TT HI1
    gi_wp2_with fail
    refine ⟨trivial, (callsIn_wide.2 C2.out).mono ?_⟩
    rintro e W3 ⟨bw2, btb2, rfl, TT, hE3⟩
    have hE3 : Ext W W3 := hE3
    have hz3 := hE3.size
    have hnn := told_not_nil #[.pointer (some ⟨bw2, 0, none⟩), .pointer (some ⟨btb2, 0, none⟩)] W3
    have HI3 := Lib.hid (And.intro (show DfI W1.heap.size (w.heap.size + 1 + 1) w.heap.size (w.heap.size + 1) (.pointer pa) (.pointer pb) w (parA B (nds A) ++ parB A []) W3 from by
      have e : parA B (nds A) ++ parB A [] = parA B (nds A) := List.append_nil _
      rw [e]; exact HIW.out.ext hE3 (by omega)) ((hE3.block D1 hd1).trans HK1.out))
    have TT := Lib.hid TT
    clear C2 hE3 HIW HK1 hc2
    gi_wp2
    refine wpIn_tells_nd (Safe := SafeO (w.heap.size + 1 + 1)) (by omega) (gf := 195) (lb := #[.pointer (some ⟨bw2, 0, none⟩), .pointer (some ⟨btb2, 0, none⟩)]) rfl (enters_of Tryz.func195 (by kernel_rfl) rfl) TT.out (show 44 < 63 by decide) (show 9 < 63 by decide) (by decide)
      (fun pre X => DfI W1.heap.size (w.heap.size + 1 + 1) w.heap.size (w.heap.size + 1) (.pointer pa) (.pointer pb) w (parA B (nds A) ++ parB A (pre.map (·.2))) X ∧ X.heap[D1]? = some (.deferred (some []))) (fun _ _ _ => False) (fun _ _ k hT h => h.turn hT) ?hI ?hIx HI3.out ?body ?done ?stop
    case hI =>
      rintro pre X Y ⟨hX, hd⟩ hTn
      obtain ⟨h1, h2⟩ := hX.turn hTn (by omega) (by omega)
      exact ⟨⟨h1, hTn.same D1 _ hd (.inl (by omega))⟩, h2⟩
    case hIx => exact fun _ _ _ _ h _ => h
    case stop => exact fun _ _ _ _ _ _ h => h.elim
    case body =>
      rintro l pre n da dc aa ac bl W hl0 hrec ⟨rest, hSp⟩ ⟨hIW, hKD⟩ hG hbl
      simp only [List.setIfInBounds_toArray, List.set_cons_succ, List.set_cons_zero]
      have hp0 : W.cell? ⟨bl, 0, none⟩ = some (.string n.path) := cell_of_row _ _ _ _ _ _ hbl
      have hc1 : W.cell? ⟨w.heap.size, 0, none⟩ = some (.pointer pa) := cell_of_row _ _ _ _ _ _ hIW.c1
      obtain ⟨ov, hov, hrow⟩ := hIW.ex
      have hpre : (pre ++ [(Value.agg (ndC n (.slice da n.data.length dc) (.slice aa n.acl.length ac)), n)]).map (·.2) = pre.map (·.2) ++ [n] := by simp
      have hSp : (pre.map (·.2) ++ [n]) ++ rest = nds B := by rw [← hpre]; exact hSp
      have hmem : n ∈ nds B := by rw [← hSp]; simp
      obtain ⟨hfit, hps⟩ := nd_of HB.out hmem
      have hlen : (parA B (nds A) ++ parB A (pre.map (·.2))).length + 1 ≤ A.length + B.length := by
        have h1 := parB_len A (pre.map (·.2))
        have h3 := parA_len B (nds A)
        have h2 := congrArg List.length hSp
        rw [nds_length] at h2 h3
        simp only [List.length_append, List.length_cons, List.length_nil] at h2 ⊢
        omega
      have hsn : parA B (nds A) ++ parB A (pre.map (·.2) ++ [n]) = (parA B (nds A) ++ parB A (pre.map (·.2))) ++ partB A (keyN n, n) := by rw [parB_snoc, List.append_assoc]
      have CG := Lib.hid (HGA.out W n.path hIW.keep (by omega))
      have HPRE := Lib.hid hpre
      have HSN := Lib.hid hsn
      have HIW := Lib.hid hIW
      have HOV := Lib.hid hov
      have HROW := Lib.hid hrow
      have HKD := Lib.hid hKD
      have hsz := hIW.size
      have HPX := Lib.hid (show parA B (nds A) ++ parB A ((pre ++ [(Value.agg (ndC n (.slice da n.data.length dc) (.slice aa n.acl.length ac)), n)]).map (·.2)) = (parA B (nds A) ++ parB A (pre.map (·.2))) ++ partB A (keyN n, n) by rw [hpre, hsn])
      generalize hPP : parA B (nds A) ++ parB A (pre.map (·.2)) = P at HIW HROW HPX hlen
      clear hSp hmem hsn hpre hIW hG hov hrow hbl hfit hKD hPP HSN HPRE
      refine wpIn_block ?_
      gi_wp2_with fail
      refine ⟨trivial, (callsIn_wide.2 CG.out).mono ?_⟩
      rintro e W4 ⟨v3, rfl, hv3, hE3⟩
      obtain ⟨db, eb, ab, fb, X3, e0, hset3, hbx3, hEX3, _, _⟩ := box_node hv3 fun b hb => hb.2
      subst e0
      have hE3 : Ext W W4 := hE3
      have hEW3 := hE3.trans hEX3
      have hp3 : X3.cell? ⟨bl, 0, none⟩ = some (.string n.path) := (hEW3.cell (World.block_lt_of_cell? _ _ hp0)).trans hp0
      have hov3 : X3.cell? ⟨w.heap.size + 1 + 1, 0, none⟩ = some ov := by
        rw [(hEW3.cell (p := ⟨w.heap.size + 1 + 1, 0, none⟩) (by show w.heap.size + 1 + 1 < W.heap.size; omega))]
        exact cell_of_row _ _ _ _ _ _ HOV.out
      have HO3 := Lib.hid (World.ownsRow.kept HROW.out (grown_of_ext hEW3 none) (Classical.em _))
      have HE3 := Lib.hid hEW3
      have hz3 : W1.heap.size ≤ X3.heap.size := Nat.le_trans hsz hEW3.size
      have HSET3 := Lib.hid hset3
      have HNEW3 := Lib.hid (heap_alloc_new W4 (.cells zeroNd 44))
      generalize (mget A n.path.data.toList).getD zeroN = y at *
      unfold ndC at HSET3 ⊢
      unfold zeroNd at HSET3 HNEW3
      clear CG hE3 hEW3 hset3 hbx3 hEX3 hv3 hp0 hc1
      cases hg : mget A n.path.data.toList with
      | some y0 =>
        have hP : parA B (nds A) ++ parB A ((pre ++ [(Value.agg (ndC n (.slice da n.data.length dc) (.slice aa n.acl.length ac)), n)]).map (·.2)) = P := by rw [HPX.out, partB_some hg, List.append_nil]
        have hk := keeps_ext (bo := w.heap.size + 1 + 1) (B' := W3.heap.size) HE3.out
        have hI6 : DfI W1.heap.size (w.heap.size + 1 + 1) w.heap.size (w.heap.size + 1) (.pointer pa) (.pointer pb) w (parA B (nds A) ++ parB A ((pre ++ [(Value.agg (ndC n (.slice da n.data.length dc) (.slice aa n.acl.length ac)), n)]).map (·.2))) X3 := by rw [hP]; exact HIW.out.ext HE3.out (by omega)
        have hkd : X3.heap[D1]? = some (.deferred (some [])) := (HE3.out.block D1 (Array.getElem?_eq_some_iff.1 HKD.out).1).trans HKD.out
        have HFIN := Lib.hid (And.intro hk.1 (And.intro hk.2 (And.intro hI6 hkd)))
        clear hg hP hk hI6 hkd hp3 hov3
        gi_wp2_with (refine wpListIn_store_row (fun _ => trivial) rfl 44 (.tmp 10) (.tmp 50) rfl W4.heap.size _ rfl rfl 44 _ HNEW3.out sizeNd rfl (cells_node _ db ab _ _ eb fb) ?_; rw [HSET3.out])
        exact HFIN.out
      | none =>
        have HP := Lib.hid (show parA B (nds A) ++ parB A ((pre ++ [(Value.agg (ndC n (.slice da n.data.length dc) (.slice aa n.acl.length ac)), n)]).map (·.2)) = P ++ [(keyN n, 2)] by rw [HPX.out, partB_none hg])
        clear hg HPX
        gi_wp2_with (first | (refine wpListIn_store_row (fun _ => trivial) rfl 44 (.tmp 10) (.tmp 50) rfl W4.heap.size _ rfl rfl 44 _ HNEW3.out sizeNd rfl (cells_node _ db ab _ _ eb fb) ?_; rw [HSET3.out]) | (gi_at_builtin; refine wpListIn_append_k (fun _ => trivial) 90 83 Tryz.underlying83 infoPt rfl (.tmp 54) (.tmp 58) rfl W1.heap.size P _ HO3.out hz3 (keyN n, 2) n.path rfl (by omega) rfl rfl ?_))
        intro v' W6 hO6 ho6 hg6
        obtain ⟨hI6, hR6, hK6, hbo6⟩ := dfI_step HIW.out (by omega) (by omega) (by omega) (by omega) (by omega) (by omega) HE3.out HOV.out HROW.out hO6 hg6 ho6 0
        have hI6 : DfI W1.heap.size (w.heap.size + 1 + 1) w.heap.size (w.heap.size + 1) (.pointer pa) (.pointer pb) w (parA B (nds A) ++ parB A ((pre ++ [(Value.agg (ndC n (.slice da n.data.length dc) (.slice aa n.acl.length ac)), n)]).map (·.2))) (W6.setRow (w.heap.size + 1 + 1) #[v']) := by rw [HP.out]; exact hI6
        have hkd := hR6.same D1 _ (Nat.zero_le _) HKD.out rfl
        obtain ⟨la, lc, rfl, _⟩ := ownsRow_from hO6
        have HB6 := Lib.hid hbo6
        have HFIN := Lib.hid (And.intro (KeepsRec.all (B := W3.heap.size) hR6) (And.intro hK6 (And.intro hI6 hkd)))
        clear hbo6 hI6 hR6 hK6 hO6 hg6 ho6 hkd
        refine wpListIn_skipped (fun _ => trivial) rfl (fun c h => by cases h) (run_store_one 83 (.tmp 5) (.tmp 59) rfl (w.heap.size + 1 + 1) (.slice la (P.length + 1) lc) rfl rfl rfl 83 ov HB6.out infoPs) ?_
        gi_wp2
        exact HFIN.out
    case done =>
      rintro D2 ys W hD2 hS ⟨hIW, hK1⟩ hK2
      rw [hS, par_parts HA.out HB.out] at hIW
      obtain ⟨ov, hov, hrow⟩ := hIW.ex
      obtain ⟨D, hD⟩ := lift_pt (diff_keys HA.out HB.out)
      have hDl : D.length = (partsP A B).length := by rw [← hD, List.length_map]
      rw [← hDl, ← hD] at hrow
      have hpl : (partsP A B).length ≤ A.length + B.length := by
        rw [← par_parts HA.out HB.out, List.length_append]
        have h1 := parA_len B (nds A)
        have h2 := parB_len A (nds B)
        rw [nds_length] at h1 h2
        omega
      have hvc : W.cell? ⟨w.heap.size + 1 + 1, 0, none⟩ = some ov := cell_of_row _ _ _ _ _ _ hov
      have CS := Lib.hid (sortP_any hrow (by omega))
      have hob := fun k e => ownBlock_lt hrow k e
      have hog := fun k e => ownBlock_ge hrow k e
      have HOB := Lib.hid hob
      have HOG := Lib.hid hog
      have HK1 := Lib.hid hK1
      have HK2 := Lib.hid hK2
      have HKE := Lib.hid hIW.keep
      have HOV := Lib.hid hov
      have HDD := Lib.hid hD
      clear hob hog hK1 hK2 hIW hov hrow hS TT HI3 hD
      gi_wp2_with fail
      refine ⟨trivial, (callsIn_wide.2 CS.out).mono ?_⟩
      rintro e W5 ⟨rfl, a, c, D', hva, hp, hs, hP, hC⟩
      have hn1 : ov.ownBlock ≠ some D1 := fun e => by
        obtain ⟨c', hc'⟩ := HOB.out D1 e
        rw [HK1.out] at hc'; cases hc'
      have hn2 : ov.ownBlock ≠ some D2 := fun e => by
        obtain ⟨c', hc'⟩ := HOB.out D2 e
        rw [HK2.out] at hc'; cases hc'
      have hn3 : ov.ownBlock ≠ some (w.heap.size + 1 + 1) := fun e => by have := HOG.out _ e; omega
      have hq1 := (hC.same D1 (Array.getElem?_eq_some_iff.1 HK1.out).1 hn1).trans HK1.out
      have hq2 := (hC.same D2 (Array.getElem?_eq_some_iff.1 HK2.out).1 hn2).trans HK2.out
      have hov5 : W5.cell? ⟨w.heap.size + 1 + 1, 0, none⟩ = some ov := cell_of_row _ _ _ _ _ _ ((hC.same _ (Array.getElem?_eq_some_iff.1 HOV.out).1 hn3).trans HOV.out)
      have hne : D1 ≠ D2 := by omega
      have hKE5 : Below w.heap.size w W5 := HKE.out.trans (hC.below (fun k hk => by have := HOG.out k hk; omega) HKE.out.size)
      have hT2 : Turn W1.heap.size W5 (W5.putObj D2 (.deferred none)) := Turn.putObj (.deferred none) (by omega) hq2 rfl
      have hq12 : (W5.putObj D2 (.deferred none)).heap[D1]? = some (.deferred (some [])) := (World.putObj_heap_other hne).trans hq1
      have hT1 : Turn W1.heap.size (W5.putObj D2 (.deferred none)) ((W5.putObj D2 (.deferred none)).putObj D1 (.deferred none)) := Turn.putObj (.deferred none) (by omega) hq12 rfl
      have hE5 : Ext w ((W5.putObj D2 (.deferred none)).putObj D1 (.deferred none)) := (hKE5.trans (hT2.below (by omega) hKE5.size)).trans (hT1.below (by omega) (Nat.le_trans hKE5.size hT2.size))
      have hfin := diff_out HA.out HB.out hva hDl (by rw [← HDD.out]; exact hp) hs ((hP.turn hT2).turn hT1) hE5
      have HFIN := Lib.hid hfin
      have HQ2 := Lib.hid hq2
      have HQ12 := Lib.hid hq12
      clear CS hva hp hs hP hC hn1 hn2 hn3 hq1 hq2 hT1 hT2 hE5 hfin hKE5 hvc HOV hq12
      gi_wp2
      refine ⟨by simp, .inl ⟨_, _, rfl, run_takeDeferred HQ2.out, by simp, .inl ⟨_, _, rfl, run_takeDeferred HQ12.out, ?_⟩⟩⟩
      refine ⟨_, results_tmp rfl _ _ _, ?_⟩
      exact HFIN.out
end Go.Proofs.YthinpbdbhijbgaaGreatDoor
namespace Go.Proofs.YthinpbdbhijbgaaGreatDoor
open Go.RowKit
set_option maxHeartbeats 2000000
set_option maxRecDepth 100000

theorem und_prefix : ∀ (n : Nat) (p : ByteArray), p.size ≤ n → vpath p = true → ∀ a : ByteArray, vpath a = true → (und p a = true ↔ (a.data.toList = p.data.toList ∨ a.data.toList = [47] ∨ (a.data.toList ++ [47]) <+: p.data.toList))
  | 0, p, hn, hv, a, ha => by have := (vpath_facts hv).1; omega
  | n + 1, p, hn, hv, a, ha => by
    have ha1 := (vpath_facts ha).1
    have hal : a.data.toList.length = a.size := size_list a
    by_cases h1 : p.size = 1
    · rw [undV_one h1, beq_iff_eq]
      have hp := (root_iff hv).1 h1
      constructor
      · intro e; exact .inl (by rw [e])
      · rintro (e | e | e)
        · exact (Array.toList_inj.1 e).symm
        · exact (Array.toList_inj.1 (e.trans hp.symm)).symm
        · have h9 := e.length_le
          rw [hp, List.length_append, hal] at h9
          simp only [List.length_cons, List.length_nil] at h9
          omega
    · obtain ⟨hs1, _, hs3, hs4⟩ := path_split hv h1
      have hv2 := vpath_parent hv h1
      rw [undV_up hv h1, Bool.or_eq_true, beq_iff_eq, und_prefix n (parentB p) (by omega) hv2 a ha]
      generalize (nameB p).data.toList = N at *
      generalize parentB p = q at *
      by_cases hq : q.size = 1
      · have hQ := (root_iff hv2).1 hq
        have hP : p.data.toList = 47 :: N := by rw [hs1]; unfold preL; rw [if_pos hq, hQ]; rfl
        rw [hQ, hP]
        constructor
        · rintro (e | e | e | e)
          · exact .inl (by rw [← hP, e])
          · exact .inr (.inl e)
          · exact .inr (.inl e)
          · have h9 := e.length_le
            rw [List.length_append, hal] at h9
            simp only [List.length_cons, List.length_nil] at h9
            omega
        · rintro (e | e | e)
          · exact .inl (Array.toList_inj.1 (e.trans hP.symm)).symm
          · exact .inr (.inl e)
          · exfalso
            obtain ⟨R, e⟩ := e
            cases hA : a.data.toList with
            | nil => rw [hA] at hal; simp at hal; omega
            | cons x A' =>
              rw [hA] at e
              simp only [List.cons_append, List.append_assoc, List.cons.injEq] at e
              exact hs4 (by rw [← e.2]; simp)
      · have hP : p.data.toList = q.data.toList ++ 47 :: N := by rw [hs1]; unfold preL; rw [if_neg hq]; simp
        constructor
        · rintro (e | e | e | e)
          · exact .inl (by rw [e])
          · exact .inr (.inr ⟨N, by rw [hP, e]; simp⟩)
          · exact .inr (.inl e)
          · exact .inr (.inr (e.trans ⟨47 :: N, hP.symm⟩))
        · rintro (e | e | e)
          · exact .inl (Array.toList_inj.1 e).symm
          · exact .inr (.inr (.inl e))
          · obtain ⟨R, e⟩ := e
            rw [hP] at e
            simp only [List.append_assoc, List.cons_append, List.nil_append] at e
            rcases List.append_eq_append_iff.1 e with ⟨c, e1, e2⟩ | ⟨c, e1, e2⟩
            · cases c with
              | nil => exact .inr (.inl (by simpa using e1.symm))
              | cons x c' =>
                simp only [List.cons_append, List.cons.injEq] at e2
                exact .inr (.inr (.inr ⟨c', by rw [e1, ← e2.1]; simp⟩))
            · cases c with
              | nil => exact .inr (.inl (by simpa using e1))
              | cons x c' =>
                simp only [List.cons_append, List.cons.injEq] at e2
                exact absurd (by rw [e2.2]; simp) hs4

theorem pund_any (p s : ByteArray) (w : World) (hp : p.size ≤ 9223372036854775800) (hs : s.size ≤ 9223372036854775800) : Calls Tryz.prog 56 #[.string s, .string p] w fun e w' => e = .returned (.bool (vpath s && vpath p && und p s)) ∧ Ext w w' := by
  have C1 := valid_any s w (by omega)
  cases hvs : vpath s with
  | false =>
    rw [hvs] at C1
    have C1 := Lib.hid C1
    clear hvs
    go_enter Tryz.func56, Tryz.ntmps56
    go_wp2_with fail
    refine C1.out.mono ?_
    rintro e w1 ⟨rfl, hb1⟩
    clear C1
    go_wp2
    go_ret
    exact ⟨by simp, hb1⟩
  | true =>
    rw [hvs] at C1
    have C1 := Lib.hid C1
    have C2 := Lib.hid fun W => valid_any p W (by omega)
    cases hvp : vpath p with
    | false =>
      rw [hvp] at C2
      clear hvp hvs
      go_enter Tryz.func56, Tryz.ntmps56
      go_wp2_with fail
      refine C1.out.mono ?_
      rintro e w1 ⟨rfl, hb1⟩
      clear C1
      go_wp2_with fail
      refine (C2.out w1).mono ?_
      rintro e w2 ⟨rfl, hb2⟩
      have HFIN := Lib.hid (Ext.trans hb1 hb2)
      clear C2 hb1 hb2
      go_wp2
      go_ret
      exact ⟨by simp, HFIN.out⟩
    | true =>
      rw [hvp] at C2
      have hu := und_prefix p.size p (Nat.le_refl _) hvp s hvs
      have hpre := fun W => Tryz.strings_HasPrefix p (s ++ ⟨#[47]⟩) W
      have hsl : (s ++ (⟨#[47]⟩ : ByteArray)).data.toList = s.data.toList ++ [47] := by simp
      rw [hsl] at hpre
      have hdt := data_toList s p
      have hl47 : (s.toList == [47]) = (s.data.toList == [47]) := by rw [ByteArray.toList_eq]
      have HV := Lib.hid hvp
      have HC3 := Lib.hid hpre
      clear hvp hvs hpre hsl
      go_enter Tryz.func56, Tryz.ntmps56
      go_wp2_with fail
      refine C1.out.mono ?_
      rintro e w1 ⟨rfl, hb1⟩
      clear C1
      go_wp2_with fail
      refine (C2.out w1).mono ?_
      rintro e w2 ⟨rfl, hb2⟩
      have HE2 := Lib.hid (Ext.trans hb1 hb2)
      clear C2 hb1 hb2
      by_cases h1 : s.data = p.data
      · have e1 : (s.data == p.data) = true := by simpa using h1
        have e2 : (s.toList == p.toList) = true := hdt.trans e1
        have e3 : s.toList = p.toList := by simpa using e2
        have HR := Lib.hid (hu.2 (.inl (by rw [h1])))
        clear hu hdt hl47 h1 e1 HC3
        go_wp2
        go_ret
        exact ⟨by rw [HR.out]; simp, HE2.out⟩
      · have e1 : (s.data == p.data) = false := by simpa using h1
        have e2 : (s.toList == p.toList) = false := hdt.trans e1
        have e3 : ¬ s.toList = p.toList := by simpa using e2
        by_cases h2 : s.data.toList = [47]
        · have r1 : (s.toList == [47]) = true := by rw [hl47]; simpa using h2
          have r2 : s.toList = [47] := by simpa using r1
          have e4 : ¬ [47] = p.toList := by rw [← r2]; exact e3
          have e5 : ([47] == p.toList) = false := by simpa using e4
          have HR := Lib.hid (hu.2 (.inr (.inl h2)))
          clear hu hdt hl47 h1 e1 h2 HC3
          go_wp2
          go_ret
          exact ⟨by rw [HR.out]; simp, HE2.out⟩
        · have r1 : (s.toList == [47]) = false := by rw [hl47]; simpa using h2
          have r2 : ¬ s.toList = [47] := by simpa using r1
          have hr : Lib.hasPrefix p.data.toList (s.data.toList ++ [47]) = und p s := by
            rw [Bool.eq_iff_iff, hu]
            unfold Lib.hasPrefix
            rw [List.isPrefixOf_iff_prefix]
            exact ⟨fun h => .inr (.inr h), fun h => (h.resolve_left fun e => h1 (Array.toList_inj.1 e)).resolve_left h2⟩
          have C3 := HC3.out w2
          rw [hr] at C3
          have C3 := Lib.hid C3
          generalize hub : und p s = ub at C3
          have HUB := Lib.hid hub
          clear hu hdt hl47 h1 e1 h2 HC3 hr hub
          go_wp2_with fail
          refine C3.out.mono ?_
          rintro e w3 ⟨rfl, rfl⟩
          clear C3
          go_wp2
          go_ret
          exact ⟨by rw [HUB.out]; simp, HE2.out⟩
end Go.Proofs.YthinpbdbhijbgaaGreatDoor
namespace Go.Proofs.YthinpbdbhijbgaaGreatDoor
open Go.RowKit Go.Sort
set_option maxHeartbeats 4000000
set_option maxRecDepth 100000

/-- Up from p until q is under it. -/
def climb : Nat → ByteArray → ByteArray → ByteArray
  | 0, p, _ => p
  | f + 1, p, q => if und q p = true then p else climb f (parentB p) q
def pathK (z : Key × Int) : ByteArray := ⟨z.1.toArray⟩
def climbL (p : ByteArray) (L : List (Key × Int)) : ByteArray := L.foldl (fun p z => climb 4096 p (pathK z)) p
def partedP (L : List (Key × Int)) : ByteArray := match L with
  | [] => ⟨#[]⟩
  | z :: _ => climbL (pathK z) L
def partedB (L : List (Key × Int)) : Bool := match L with
  | [] => false
  | _ :: _ => true
def PVal (L : List (Key × Int)) : Prop := ∀ z ∈ L, vpath (pathK z) = true
theorem climb_und {f : Nat} {p q : ByteArray} (h : und q p = true) : climb f p q = p := by
  cases f with
  | zero => rfl
  | succ f => show (if und q p = true then p else _) = p; rw [if_pos h]
theorem climb_up {f : Nat} {p q : ByteArray} (h : und q p = false) (hp : vpath p = true) (hq : vpath q = true) (hf : p.size ≤ f) : ∃ g, climb f p q = climb g (parentB p) q ∧ vpath (parentB p) = true ∧ (parentB p).size ≤ g ∧ (parentB p).size < p.size ∧ p.size ≠ 1 := by
  have h1 : p.size ≠ 1 := fun h1 => by
    have := (und_prefix q.size q (Nat.le_refl _) hq p hp).2 (.inr (.inl ((root_iff hp).1 h1)))
    rw [h] at this; cases this
  have h2 := (path_split hp h1).2.2.1
  have h3 := (vpath_facts hp).1
  cases f with
  | zero => omega
  | succ g =>
    refine ⟨g, ?_, vpath_parent hp h1, by omega, h2, h1⟩
    show (if und q p = true then p else _) = _
    rw [if_neg (by rw [h]; simp)]
theorem climbL_snoc (p : ByteArray) (L : List (Key × Int)) (z : Key × Int) : climbL p (L ++ [z]) = climb 4096 (climbL p L) (pathK z) := by unfold climbL; rw [List.foldl_append]; rfl
def PartedOut (L : List (Key × Int)) (w : World) (e : Ending) (w' : World) : Prop := e = .returned (.tuple #[.string (partedP L), .bool (partedB L)]) ∧ Ext w w'
/-- One round's climb. -/
def Clm (p q : ByteArray) (W : World) (v : Value) (wt : World) : Prop := ∃ (r : ByteArray) (f : Nat), v = .string r ∧ vpath r = true ∧ r.size ≤ f ∧ climb 4096 p q = climb f r q ∧ Ext W wt
def strOf : Value → Nat | .string q => q.size | _ => 0

theorem sizePt : (Tryz.prog.info? 90).map (·.size) = some 2 := by kernel_rfl
theorem pparted_any (pa pb : Option Addr) (L : List (Key × Int)) (w : World) (hD : Calls Tryz.prog 47 #[.pointer pa, .pointer pb] w (DiffOut L w)) (hL : PVal L) (hl : L.length ≤ 9223372036854775807) :
    Calls Tryz.prog 49 #[.pointer pa, .pointer pb] w (PartedOut L w) := by
  have HD := Lib.hid hD
  clear hD
  go_enter Tryz.func49, Tryz.ntmps49
  go_wp2_with fail
  refine HD.out.mono ?_
  rintro e W1 ⟨a, c, rfl, hP, hE1⟩
  have hE1 : Ext w W1 := hE1
  have HE1 := Lib.hid hE1
  have HP := Lib.hid hP
  have HL := Lib.hid hL
  clear hE1 hP hL HD
  cases L with
  | nil =>
    go_wp2
    go_ret2
    exact ⟨rfl, HE1.out⟩
  | cons z0 L0 =>
    have hfin : ∀ wr, Ext W1 wr → PartedOut (z0 :: L0) w (.returned (.tuple #[.string (climbL (pathK z0) (z0 :: L0)), .bool true])) wr := fun wr h => ⟨rfl, HE1.out.trans h⟩
    have hz0 : vpath (pathK z0) = true := HL.out z0 (List.mem_cons_self ..)
    obtain ⟨b0, o0, rfl, hb0, hc0, _⟩ := HP.out 0 z0 rfl
    have hc0 : W1.cell? ⟨b0, o0, none⟩ = some (.string (pathK z0)) := by
      have : W1.cell? ⟨b0, o0 + 0 * 2, none⟩ = some (.string (pathK z0)) := hc0
      rwa [Nat.zero_mul, Nat.add_zero] at this
    have HFIN := Lib.hid hfin
    have hlen : (z0 :: L0).length = L0.length + 1 := rfl
    have hpos : 0 < (z0 :: L0).length := by omega
    have hl0 : (((z0 :: L0).length : Int) == 0) = false := by rw [beq_eq_false_iff_ne]; omega
    generalize hp0 : pathK z0 = p0 at *
    have HZ0 := Lib.hid hz0
    generalize (z0 :: L0) = L at *
    clear hfin hz0 hlen hp0
    go_wp2
    go_loopw [7, 22] (fun pv i wr => ∃ k : Nat, k ≤ L.length ∧ i = .int .i64 k ∧ pv = .string (climbL p0 (L.take k)) ∧ Hid (vpath (climbL p0 (L.take k)) = true) ∧ Hid (Ext W1 wr)) (fun _ i _ => L.length - (intOf i).toNat)
    case atStart => exact ⟨0, Nat.zero_le _, rfl, rfl, HZ0.out, Ext.refl _⟩
    case round =>
      obtain ⟨k, hk, rfl, rfl, HV, HE⟩ := hrel
      by_cases hlt : k < L.length
      · obtain ⟨b, off, e, hb, hc, hk2⟩ := HP.out k L[k] (List.getElem?_eq_getElem hlt)
        cases e
        obtain ⟨kd, hkd⟩ : ∃ kd, kd = L[k].2 := ⟨_, rfl⟩
        have hcr2 : wr.cell? ⟨b0, o0 + k * 2 + 1, none⟩ = some (.int .i64 kd) := by rw [hkd]; exact (HE.out.cell (p := ⟨b0, o0 + k * 2 + 1, none⟩) hb).trans hk2
        clear hkd hk2
        have hvq := HL.out L[k] (List.getElem_mem hlt)
        have hs := climbL_snoc p0 (L.take k) L[k]
        rw [← List.take_succ_eq_append_getElem hlt] at hs
        have hcr : wr.cell? ⟨b0, o0 + k * 2, none⟩ = some (.string (pathK L[k])) := (HE.out.cell (p := ⟨b0, o0 + k * 2, none⟩) hb).trans hc
        generalize hp2 : climbL p0 (L.take (k + 1)) = p2 at hs
        have HP2 := Lib.hid hp2
        clear hp2
        generalize climbL p0 (L.take k) = p1 at HV hs ⊢
        generalize pathK L[k] = q at hcr hs hvq
        have HVQ := Lib.hid hvq
        have HS := Lib.hid hs
        have hcl : ∀ j u, (#[Value.string q, .int .i64 kd] : Array Value)[j]? = some u → wr.cell? ((⟨b0, o0 + k * 2, none⟩ : Addr).add j) = some u := fun j u hj => by
          rw [addr_add]
          match j, hj with
          | 0, hj => rw [Nat.add_zero, hcr]; exact hj
          | 1, hj => rw [hcr2]; exact hj
          | j + 2, hj => simp at hj
        have HCL := Lib.hid hcl
        obtain ⟨W2, hW2⟩ : ∃ W2, W2 = wr.alloc (.cells #[.string q, .int .i64 kd] 90) := ⟨_, rfl⟩
        have hE2 : Ext wr W2 := by rw [hW2]; exact Ext.alloc _ _
        have hb2 : W2.heap[wr.heap.size]? = some (.cells #[.string q, .int .i64 kd] 90 (0, 0)) := by rw [hW2]; exact heap_alloc_new wr _
        have hcr3 : W2.cell? ⟨wr.heap.size, 0, none⟩ = some (.string q) := cell_of_row _ _ _ _ _ _ hb2
        have HW2 := Lib.hid hW2.symm
        have HEB := Lib.hid hE2
        have HCB := Lib.hid hcr3
        clear hc hs hvq hE2 hb2 hW2 hcr3 hcl
        go_wp2_with (refine wpList_load_at rfl 90 (.tmp 24) rfl _ rfl _ _ HCL.out Tryz.underlying90 rfl sizePt ?_)
        rw [HW2.out]
        go_loopw [7] (fun v wt => Clm p1 q W2 v wt) (fun v _ => strOf v)
        case atStart => exact ⟨p1, 4096, rfl, HV.out, (vpath_facts HV.out).2.1, rfl, Ext.refl _⟩
        case round =>
          obtain ⟨r, f, rfl, hvr, hrf, hcl, hE⟩ := hrel
          have hcw : _ := (hE.cell (World.block_lt_of_cell? _ _ HCB.out)).trans HCB.out
          have hr1 := (vpath_facts hvr).2.1
          have hq1 := (vpath_facts HVQ.out).2.1
          have CU := pund_any q r wr (by omega) (by omega)
          rw [hvr, HVQ.out] at CU
          simp only [Bool.true_and] at CU
          cases hu : und q r with
          | true =>
            rw [hu] at CU
            have HR := Lib.hid (show p2 = r from HS.out.trans (hcl.trans (climb_und hu)))
            have HVR := Lib.hid hvr
            have CU := Lib.hid CU
            have HE2 := Lib.hid hE
            clear hu hcl hvr hE
            go_wp2_with fail
            refine CU.out.mono ?_
            rintro e W3 ⟨rfl, hE3⟩
            have HE3 := Lib.hid (HE.out.trans (HEB.out.trans (HE2.out.trans hE3)))
            clear CU hE3 hcw hcr hcr2
            go_wp2
            go_roundw
            case rel => exact ⟨k + 1, by omega, by go_num, by rw [HP2.out, HR.out], by unfold Hid; rw [HP2.out, HR.out]; exact HVR.out, HE3.out⟩
            case measure => simp [intOf]; omega
          | false =>
            rw [hu] at CU
            obtain ⟨g, hg1, hg2, hg3, hg4, hg5⟩ := climb_up hu hvr HVQ.out hrf
            have CP := parent_any r
            have hpv : parV r = .tuple #[.string (parentB r), .int .i64 0] := by unfold parV; rw [if_pos ⟨hvr, hg5⟩]
            rw [hpv] at CP
            have CP := Lib.hid fun W => CP W (by omega)
            have CU := Lib.hid CU
            have HE2 := Lib.hid hE
            have HCL := Lib.hid (hcl.trans hg1)
            have HG2 := Lib.hid hg2
            clear hu hcl hvr hE hg1 hg2 hpv hg5
            go_wp2_with fail
            refine CU.out.mono ?_
            rintro e W3 ⟨rfl, hE3⟩
            have HE3 := Lib.hid (HE2.out.trans hE3)
            clear CU hE3 hcw
            go_wp2_with fail
            refine (CP.out W3).mono ?_
            rintro e W4 ⟨rfl, hE4⟩
            have HE4 := Lib.hid (Ext.trans HE3.out hE4)
            clear CP hE4
            go_wp2
            go_roundw
            case rel => exact ⟨_, g, rfl, HG2.out, hg3, HCL.out, HE4.out⟩
            case measure => first | exact hg4 | simpa [strOf] using hg4
      · obtain rfl : k = L.length := by omega
        have hf := HFIN.out wr HE.out
        rw [List.take_length]
        have HF := Lib.hid hf
        generalize climbL p0 L = p1 at *
        clear hf HFIN hc0
        go_wp2
        go_ret2
        exact HF.out
end Go.Proofs.YthinpbdbhijbgaaGreatDoor
namespace Go.Proofs.YthinpbdbhijbgaaGreatDoor
open Go.RowKit Go.Sort
set_option maxHeartbeats 4000000
set_option maxRecDepth 100000

/-- A tree of the program's, or none. -/
def TreeO (p : Option Addr) (M : List (Key × Nd)) (w : World) : Prop := (p = none ∧ M = []) ∨ ∃ bt S N, p = some ⟨bt, 0, none⟩ ∧ TreeAt S w bt M N
/-- A tree of the document's, or none. -/
def RefO (p : Option Addr) (M : List (Key × Nd)) (w : World) : Prop := (p = none ∧ M = []) ∨ ∃ b, p = some ⟨b, 0, none⟩ ∧ RT w b (nds M)
section
variable {p : Option Addr} {M : List (Key × Nd)} {w w' : World}
theorem TreeO.ext (h : TreeO p M w) (hE : Ext w w') : TreeO p M w' := by
  rcases h with h | ⟨bt, S, N, e, hT⟩
  · exact .inl h
  · exact .inr ⟨bt, S, N, e, hT.ext hE⟩
theorem RefO.ext (h : RefO p M w) (hE : Ext w w') : RefO p M w' := by
  rcases h with h | ⟨b, e, hT⟩
  · exact .inl h
  · exact .inr ⟨b, e, hT.ext hE⟩
theorem TreeO.ok (h : TreeO p M w) : MOk M := by
  rcases h with ⟨_, rfl⟩ | ⟨bt, S, N, _, hT⟩
  · exact MOk.nil
  · exact hT.ok
theorem TreeO.alls (h : TreeO p M w) (hl : M.length * 168 ≤ 140737488355328) (bo : Nat) (hb : w.heap.size ≤ bo) : AllsO (.pointer p) M w bo := by
  rcases h with ⟨rfl, rfl⟩ | ⟨bt, S, N, rfl, hT⟩
  · exact AllsO.nil w bo
  · exact AllsO.of_tree hT hl hT.ok.keys_le bo hb
theorem TreeO.gets (h : TreeO p M w) : GetsM (.pointer p) M w := by
  rcases h with ⟨rfl, rfl⟩ | ⟨bt, S, N, rfl, hT⟩
  · exact GetsM.nil w
  · exact GetsM.of_tree hT
theorem RefO.alls (h : RefO p M w) (hM : MOk M) (hl : M.length * 168 ≤ 140737488355328) : RAlls (.pointer p) M w := by
  rcases h with ⟨rfl, rfl⟩ | ⟨b, rfl, hT⟩
  · exact RAlls.nil w
  · exact RAlls.of_tree hT hM hl
end
/-- What From makes of a list. -/
def errL (L : List Nd) : Int := match fromN L with | .error (_, x) => x | .ok _ => 0
def treeL (L : List Nd) : List (Key × Nd) := match fromN L with | .error _ => [] | .ok M => M
def okL (L : List Nd) : Bool := match fromN L with | .error _ => false | .ok _ => true
def FromO (L : List Nd) (w : World) (e : Ending) (w' : World) : Prop := ∃ (p : Option Addr) (i : Int), e = .returned (.tuple #[.pointer p, .int .i64 i, .int .i64 (errL L)]) ∧ TreeO p (treeL L) w' ∧ p.isSome = okL L ∧ (treeL L).length ≤ L.length ∧ Ext w w'
theorem from_o (L : List Nd) (a : Option Addr) (c : Nat) (w : World) (hT0 : Tabs w) (hL : NdsAt w.heap.size w a L) (hf : ∀ n ∈ L, Fit n) (hl : L.length ≤ 140737488355328) : Calls Tryz.prog 51 #[.slice a L.length c] w (FromO L w) := by
  refine (from_any L a c w hT0 hL hf hl).mono fun e w' h => ?_
  unfold FromOut at h
  unfold FromO errL treeL okL
  cases hfr : fromN L with
  | error x =>
    obtain ⟨i, x⟩ := x
    rw [hfr] at h
    exact ⟨none, i, h.1, .inl ⟨rfl, rfl⟩, rfl, Nat.zero_le _, h.2⟩
  | ok M =>
    rw [hfr] at h
    obtain ⟨b, e1, hT, hE⟩ := h
    exact ⟨_, 0, e1, .inr ⟨b, _, _, rfl, hT⟩, rfl, hT.len, hE⟩
end Go.Proofs.YthinpbdbhijbgaaGreatDoor
namespace Go.Proofs.YthinpbdbhijbgaaGreatDoor
open Go.RowKit
set_option maxHeartbeats 4000000
set_option maxRecDepth 100000

theorem wpList_load_row_g {P : Program} {ops : Array Oper} {rest : List Oper} {o : Oper} {a : Act} {Q : Exit → Act → World → Prop} {w : World} (hw : Region.wanted o (yielded ops a.tmps) = true) (ty : TypeId) (x : Operand) (ho : o.op = .load ty x) (g : Nat) (hx : a.eval x = .pointer (some ⟨g, 0, none⟩)) (t : TypeId) (cs : Array Value) (fr : Nat × Nat) (d : TypeDesc) (hg : w.heap[g]? = some (.cells cs t fr))
    (hu : P.underlying ty = some d) (hd : (match d with | .struct _ | .array _ _ => true | _ => false) = true) (hi : (P.info? ty).map (·.size) = some cs.size)
    (hK : wpList P ops Q rest (a.put o.dst (.agg cs)) w) : wpList P ops Q (o :: rest) a w := by
  rw [wpList, if_pos hw]
  exact .inl (wp_value (ex_load_row ho g hx t cs fr d hg hu hd hi) hK)

theorem grown_ext {a b : World} (h : Ext a b) (row : Option Nat) : a.grownBy b row := ⟨h.os, h.tape, h.output, h.size, fun k hk _ => h.block k hk⟩

end Go.Proofs.YthinpbdbhijbgaaGreatDoor
namespace Go.Proofs.YthinpbdbhijbgaaGreatDoor
open Go.RowKit
set_option maxHeartbeats 4000000
set_option maxRecDepth 100000

/-- Are two trees' nodes the same? -/
noncomputable def sameM (a b : List (Key × Nd)) : Bool := @decide (a = b) (Classical.propDecidable _)
theorem sameM_self (a : List (Key × Nd)) : sameM a a = true := by simp [sameM]
theorem sameM_not {a b : List (Key × Nd)} (h : a ≠ b) : sameM a b = false := by simp [sameM, h]
theorem sameM_of {a b : List (Key × Nd)} (ha : MSorted a) (hb : MSorted b) (hl : a.length = b.length) (h : ∀ k y, mget a k = some y → mget b k = some y) : sameM a b = true := by
  have hf : b.filter (fun x => @decide (x ∈ a) (Classical.propDecidable _)) = a := mem_ext_sorted (hb.filter _) ha fun x => by
    simp only [List.mem_filter, decide_eq_true_eq]
    exact ⟨fun h => h.2, fun hx => ⟨mget_some_mem (h x.1 x.2 (mget_of_mem ha hx)), hx⟩⟩
  have hsub := List.filter_sublist (l := b) (p := fun x => @decide (x ∈ a) (Classical.propDecidable _))
  have := hsub.eq_of_length (by rw [hf, hl])
  rw [hf] at this
  rw [this]
  exact sameM_self b

theorem eqf_any (S1 S2 : Nat → Prop) (w : World) (bn1 bn2 : Nat) (M M2 : List (Key × Nd)) (N1 N2 : Nat) (h1 : NodesAt S1 w bn1 M N1) (h2 : NodesAt S2 w bn2 M2 N2) (hS1 : ∀ k, S1 k → k < w.heap.size) (hS2 : ∀ k, S2 k → k < w.heap.size) :
    Calls Tryz.prog 97 #[.map (some bn1), .map (some bn2), .func (.func 98) #[] #[]] w fun e w' => e = .returned (.bool (sameM M M2)) ∧ Ext w w' := by
  have hok := h1.ok
  have hok2 := h2.ok
  obtain ⟨m1, hm1, hr1⟩ := h1.ex
  have hlt2 : bn2 < w.heap.size := by obtain ⟨m2, hm2, _⟩ := h2.ex; exact hm2.lt
  have hlen1 := fun ty => hm1.len (e := 44) Tryz.underlying120 ty
  have hlen2 : ∀ ty, (Builtin.len_ #[120] ty #[.map (some bn2)]).run Tryz.prog w = .ok (.int .i64 M2.length) w := fun ty => by
    obtain ⟨m2, hm2, hr2⟩ := h2.ex
    rw [hr2.length]
    exact hm2.len (e := 44) Tryz.underlying120 ty
  rw [← hr1.length] at hlen1
  have HR1 := Lib.hid hr1
  have H2 := Lib.hid h2
  have HOK := Lib.hid hok
  have HOK2 := Lib.hid hok2
  have HM1 := hm1
  clear h1 h2 hm1 hr1 hok hok2
  by_cases hlen : M.length = M2.length
  rotate_left
  · have HFIN := Lib.hid (sameM_not (a := M) (b := M2) fun e => hlen (by rw [e]))
    have f1 : ((M.length : Int) != (M2.length : Int)) = true := by simp; omega
    have f2 : ((M.length : Int) == (M2.length : Int)) = false := by simp; omega
    go_enter Tryz.func97, Tryz.ntmps97
    go_wp2
    go_ret
    exact ⟨by rw [HFIN.out]; rfl, Ext.refl _⟩
  rw [← hlen] at hlen2
  have HLEN := Lib.hid hlen
  clear hlen
  go_enter Tryz.func97, Tryz.ntmps97
  go_wp2_with (at_range; refine wpList_range_own _ rfl _ 120 rfl 9 44 (Maps.string_keyed strT) Tryz.underlying120 Rv bn1 _ _ rfl HM1 ?_; intro w0 hrg0 hg0 hs0)
  go_frame
  have hE0 : Ext w w0 := ⟨hg0.os, hg0.tape, hg0.output, hg0.size, fun k hk => hg0.block k hk (by simp)⟩
  have hb1 := HM1.lt
  have HRG0 := Lib.hid hrg0
  have HE0 := Lib.hid hE0
  clear HM1 hlen1 hlen2 hrg0 hg0 hs0 hE0
  go_loopw [6] (fun r wr => ∃ (left : Lit → Bool) (cnt : Nat), r = .bool false ∧ wr.ranges Tryz.prog 9 Rv bn1 w.heap.size m1.length (kvD m1) left cnt ∧ Hid (∀ k y, mget M k = some y → left (.string k) = false → mget M2 k = some y) ∧ Ext w wr) (fun _ wr => wr.rangeLeft bn1 w.heap.size)
  case atStart =>
    refine ⟨_, _, rfl, HRG0.out, fun k y hk hl => ?_, HE0.out⟩
    rw [kvD_has] at hl
    rcases HR1.out.get k with ⟨h3, _⟩ | ⟨y, v, _, h3, _⟩
    · rw [h3] at hk; cases hk
    · rw [h3] at hl; cases hl
  case round =>
    obtain ⟨left, cnt, rfl, hrg, HG, hE⟩ := hrel
    have HE := Lib.hid hE
    clear hE
    go_wp2_with (at_next; refine wpList_next_left _ rfl _ rfl 9 strT bn1 w.heap.size _ m1 left cnt rfl hrg ?_ ?_)
    · intro hl0
      have HFIN := Lib.hid (sameM_of HOK.out.sorted HOK2.out.sorted HLEN.out fun k y hk => HG.out k y hk (hl0 _))
      clear hrg
      go_wp2
      go_ret
      exact ⟨by rw [HFIN.out]; rfl, HE.out⟩
    · intro s v w6 cnt6 hs _ hmg hrg6 hlt6 hg6 hsz6 hen
      obtain ⟨y, hy, hv⟩ : ∃ y, mget M s.data.toList = some y ∧ NdS S1 w v y := by
        rcases HR1.out.get s.data.toList with ⟨_, h2⟩ | ⟨y, u, h1, h2, h3⟩
        · rw [h2] at hmg; cases hmg
        · rw [h2] at hmg
          cases hmg
          exact ⟨y, h1, h3⟩
      have hEw6 : Ext w w6 := HE.out.trans' ⟨hg6.os, hg6.tape, hg6.output, hg6.size, fun i hi => hg6.block i (Nat.lt_of_lt_of_le hi HE.out.size) (fun e => by
        have := Option.some.inj e
        omega)⟩
      have hfit := HOK.out.fit s.data.toList
      rw [hy] at hfit
      simp only [Option.getD_some] at hfit
      obtain ⟨da, dc, aa, ac, rfl, hD, hA⟩ := hv
      obtain ⟨W7, hW7⟩ : ∃ W7, W7 = w6.alloc (.cells (ndC y (.slice da y.data.length dc) (.slice aa y.acl.length ac)) 44) := ⟨_, rfl⟩
      have hE7 : Ext w6 W7 := by rw [hW7]; exact Ext.alloc _ _
      have hz7 : W7.heap.size = w6.heap.size + 1 := by rw [hW7]; simp
      have hn7 : W7.heap[w6.heap.size]? = some (.cells (ndC y (.slice da y.data.length dc) (.slice aa y.acl.length ac)) 44 (0, 0)) := by rw [hW7]; exact heap_alloc_new _ _
      have hEw7 := hEw6.trans hE7
      have h27 : NodesAt S2 W7 bn2 M2 N2 := H2.out.keep (hEw7.block bn2 hlt2) (fun _ h => h) (fun b o u hb hu => (hEw7.cell (p := ⟨b, o, none⟩) (hS2 b hb)).trans hu) (Nat.le_refl _)
      obtain ⟨v2, hv2, hq, _⟩ := h27.look' s hs
      have hfit2 := HOK2.out.fit s.data.toList
      have hG2 := HG.out
      have HSTEP := Lib.hid (show mget M2 s.data.toList = some y → ∀ k y', mget M k = some y' → (left (.string k) && !(Lit.string k).sameKey (.string s.data.toList)) = false → mget M2 k = some y' from fun h2 k y' hk hl => by
        simp only [Bool.and_eq_false_iff, Bool.not_eq_false'] at hl
        rcases hl with hl | hl
        · exact hG2 k y' hk hl
        · have e : k = s.data.toList := by simpa [Lit.sameKey] using hl
          rw [e] at hk ⊢
          rw [hy] at hk
          rw [h2, Option.some.inj hk])
      have HNOT := Lib.hid (show mget M2 s.data.toList ≠ some y → sameM M M2 = false from fun h2 => sameM_not fun e => h2 (by rw [← e]; exact hy))
      obtain ⟨z, hz⟩ : ∃ z, z = (mget M2 s.data.toList).getD zeroN := ⟨_, rfl⟩
      rw [← hz] at hv2 hfit2
      obtain ⟨db, dd, ab, ad, rfl, hD2, hA2⟩ := hv2
      obtain ⟨W8, hW8⟩ : ∃ W8, W8 = W7.alloc (.cells (ndC z (.slice db z.data.length dd) (.slice ab z.acl.length ad)) 44) := ⟨_, rfl⟩
      have hE8 : Ext W7 W8 := by rw [hW8]; exact Ext.alloc _ _
      have hz8 : W8.heap.size = W7.heap.size + 1 := by rw [hW8]; simp
      have hn8 : W8.heap[W7.heap.size]? = some (.cells (ndC z (.slice db z.data.length dd) (.slice ab z.acl.length ad)) 44 (0, 0)) := by rw [hW8]; exact heap_alloc_new _ _
      have hn78 := (hE8.block w6.heap.size (by omega)).trans hn7
      have hE68 := hE7.trans hE8
      have CS := Lib.hid (ssame_any y z da aa db ab dc ac dd ad W8 hfit hfit2 (((hD.cells hS1).ext (hEw7.trans hE8))) ((hA.cells hS1).ext (hEw7.trans hE8)) ((hD2.cells fun b hb => Nat.lt_of_lt_of_le (hS2 b hb) hEw7.size).ext hE8) ((hA2.cells fun b hb => Nat.lt_of_lt_of_le (hS2 b hb) hEw7.size).ext hE8))
      have HRG8 := Lib.hid (hrg6.kept (grown_ext hE68 none) (by simp) (by simp))
      have HRG := Lib.hid hrg
      have HSET7 := Lib.hid ((setRow_alloc w6 zeroNd (ndC y (.slice da y.data.length dc) (.slice aa y.acl.length ac)) 44).trans hW7.symm)
      have HNew7 := Lib.hid (heap_alloc_new w6 (.cells zeroNd 44))
      have HSET8 := Lib.hid ((setRow_alloc W7 zeroNd (ndC z (.slice db z.data.length dd) (.slice ab z.acl.length ad)) 44).trans hW8.symm)
      have HNew8 := Lib.hid (heap_alloc_new W7 (.cells zeroNd 44))
      have HN78 := Lib.hid hn78
      have HN8 := Lib.hid hn8
      have HEW8 := Lib.hid (hEw7.trans hE8)
      have HLT := Lib.hid hlt6
      rw [hz7] at HSET8 HNew8 HN8
      unfold ndC at HSET7 HSET8 HN78 HN8 CS hq
      unfold zeroNd at HSET7 HNew7 HSET8 HNew8
      clear hrg hrg6 hg6 hsz6 hW7 hW8 hE7 hE8 hE68 hEw6 hEw7 hn7 hn8 hn78 h27 hD hA hD2 hA2 hmg hlt6 hfit hfit2 hG2 HG
      unfold ndC at hen
      cases hg2 : mget M2 s.data.toList with
      | none =>
        rw [hg2] at hq
        simp only [Option.isSome_none] at hq
        have HFIN := Lib.hid (HNOT.out (by rw [hg2]; simp))
        clear HSTEP HNOT hz hg2 CS hy HRG HRG8
        go_wp2_with (first | (refine wpList_store_row rfl 44 (.tmp 8) (.tmp 22) rfl w6.heap.size _ rfl rfl 44 _ HNew7.out sizeNd rfl (cells_node y da aa _ _ dc ac) ?_; rw [HSET7.out]) | (refine wpList_store_row rfl 44 (.tmp 9) (.tmp 27) rfl (w6.heap.size + 1) _ rfl rfl 44 _ HNew8.out sizeNd rfl (cells_node z db ab _ _ dd ad) ?_; rw [HSET8.out]))
        go_ret
        exact ⟨by rw [HFIN.out]; rfl, HEW8.out⟩
      | some z0 =>
        rw [hg2] at hq
        simp only [Option.isSome_some] at hq
        have hzz : z = z0 := by rw [hz, hg2]; rfl
        have CS := CS.out
        by_cases hyz : y = z
        · have hsn : sameN y z = true := by rw [hyz]; exact sameN_self _
          rw [hsn] at CS
          have CS := Lib.hid CS
          have HST := Lib.hid (HSTEP.out (by rw [hg2, hyz, hzz]))
          clear HSTEP HNOT hz hg2 hzz hsn hyz hy
          go_wp2_with (first | (refine wpList_store_row rfl 44 (.tmp 8) (.tmp 22) rfl w6.heap.size _ rfl rfl 44 _ HNew7.out sizeNd rfl (cells_node y da aa _ _ dc ac) ?_; rw [HSET7.out]) | (refine wpList_store_row rfl 44 (.tmp 9) (.tmp 27) rfl (w6.heap.size + 1) _ rfl rfl 44 _ HNew8.out sizeNd rfl (cells_node z db ab _ _ dd ad) ?_; rw [HSET8.out]) | (refine wpList_load_row_g rfl 44 (.tmp 8) rfl w6.heap.size rfl 44 _ (0, 0) _ HN78.out Tryz.underlying44 rfl sizeNd ?_) | (refine wpList_load_row_g rfl 44 (.tmp 9) rfl (w6.heap.size + 1) rfl 44 _ (0, 0) _ HN8.out Tryz.underlying44 rfl sizeNd ?_))
          refine CS.out.mono ?_
          rintro e w9 ⟨rfl, hE9⟩
          have hE9 : Ext W8 w9 := hE9
          have hrg9 := HRG8.out.kept (grown_ext hE9 none) (by simp) (by simp)
          have HREL := Lib.hid (show ∃ (left : Lit → Bool) (cnt : Nat), Value.bool false = .bool false ∧ w9.ranges Tryz.prog 9 Rv bn1 w.heap.size m1.length (kvD m1) left cnt ∧ Hid (∀ k y, mget M k = some y → left (.string k) = false → mget M2 k = some y) ∧ Ext w w9 from ⟨_, _, rfl, hrg9, HST.out, HEW8.out.trans hE9⟩)
          have HMS := Lib.hid (show w9.rangeLeft bn1 w.heap.size < wr.rangeLeft bn1 w.heap.size by rw [hrg9.left_eq, HRG.out.left_eq]; exact HLT.out)
          clear CS hE9 hrg9 HRG8 HRG HN78 HN8 HSET7 HSET8 HNew7 HNew8 hq hen HST
          go_wp2
          go_roundw
          case rel =>
            obtain ⟨l, c, _, h⟩ := HREL.out
            exact ⟨l, c, rfl, h⟩
          case measure => exact HMS.out
        · have hsn : sameN y z = false := sameN_not hyz
          rw [hsn] at CS
          have CS := Lib.hid CS
          have HFIN := Lib.hid (HNOT.out (by rw [hg2]; intro h; exact hyz (by rw [hzz]; exact (Option.some.inj h).symm)))
          clear HSTEP HNOT hz hg2 hzz hsn hyz hy HRG HRG8
          go_wp2_with (first | (refine wpList_store_row rfl 44 (.tmp 8) (.tmp 22) rfl w6.heap.size _ rfl rfl 44 _ HNew7.out sizeNd rfl (cells_node y da aa _ _ dc ac) ?_; rw [HSET7.out]) | (refine wpList_store_row rfl 44 (.tmp 9) (.tmp 27) rfl (w6.heap.size + 1) _ rfl rfl 44 _ HNew8.out sizeNd rfl (cells_node z db ab _ _ dd ad) ?_; rw [HSET8.out]) | (refine wpList_load_row_g rfl 44 (.tmp 8) rfl w6.heap.size rfl 44 _ (0, 0) _ HN78.out Tryz.underlying44 rfl sizeNd ?_) | (refine wpList_load_row_g rfl 44 (.tmp 9) rfl (w6.heap.size + 1) rfl 44 _ (0, 0) _ HN8.out Tryz.underlying44 rfl sizeNd ?_))
          refine CS.out.mono ?_
          rintro e w9 ⟨rfl, hE9⟩
          have HE9 := Lib.hid (HEW8.out.trans hE9)
          clear CS hE9 HN78 HN8 HSET7 HSET8 HNew7 HNew8 hq hen
          go_wp2
          go_ret
          exact ⟨by rw [HFIN.out]; rfl, HE9.out⟩

theorem tsame_any (S1 S2 : Nat → Prop) (w : World) (b1 b2 : Nat) (M M2 : List (Key × Nd)) (N1 N2 : Nat) (h1 : TreeAt S1 w b1 M N1) (h2 : TreeAt S2 w b2 M2 N2) :
    Calls Tryz.prog 31 #[.pointer (some ⟨b1, 0, none⟩), .pointer (some ⟨b2, 0, none⟩)] w fun e w' => e = .returned (.bool (sameM M M2)) ∧ Ext w w' := by
  have hB1 := h1.bound
  have hB2 := h2.bound
  obtain ⟨n1, k1, K1, hd1, hN1, _⟩ := h1
  obtain ⟨n2, k2, K2, hd2, hN2, _⟩ := h2
  have hx1 := TreeAt.box hd1
  have hx2 := TreeAt.box hd2
  have HC := Lib.hid fun (W : World) (hE : Ext w W) => eqf_any S1 S2 W n1 n2 M M2 N1 N2 (hN1.keep (hE.block n1 (hd1.bound _ hd1.sn)) (fun _ h => h) (fun b o u hb hu => (hE.cell (p := ⟨b, o, none⟩) (hB1 b hb)).trans hu) (Nat.le_refl _)) (hN2.keep (hE.block n2 (hd2.bound _ hd2.sn)) (fun _ h => h) (fun b o u hb hu => (hE.cell (p := ⟨b, o, none⟩) (hB2 b hb)).trans hu) (Nat.le_refl _))
    (fun k hk => Nat.lt_of_lt_of_le (hB1 k hk) hE.size) (fun k hk => Nat.lt_of_lt_of_le (hB2 k hk) hE.size)
  unfold Box treeC at hx1 hx2
  clear hd1 hd2 hN1 hN2 hB1 hB2
  go_enter Tryz.func31, Tryz.ntmps31
  have hG0 : Ext w w.drew := Ext.drew _
  have HX1 := Lib.hid hx1
  have HX2 := Lib.hid hx2
  have hGx : ∀ (i : Nat) (d d' : Nat → Bool) (u v : World), Ext w u → Ext u v → (∀ k, k ≠ i → d' k = d k) → Ext w v := fun _ _ _ _ _ h k _ => h.trans k
  clear hx1 hx2
  go_wp2
  refine wp_region_P (by kernel_rfl) (region_state_vals 23 (fun _ W => Ext w W) hG0 [.pointer (some ⟨b1, 0, none⟩), .pointer (some ⟨b1, 0, none⟩), .pointer (some ⟨b1, 0, none⟩), .map (some n1), .pointer (some ⟨b2, 0, none⟩), .pointer (some ⟨b2, 0, none⟩), .pointer (some ⟨b2, 0, none⟩), .map (some n2), .bool (sameM M M2), .bool (sameM M M2)] rfl (by decide) rfl ?duties ?rest)
  case duties =>
    refine ⟨?_, ?_, ?_, ?_, ?_, ?_, ?_, ?_, ?_, ?_, trivial⟩
    · refine dutyS_ext (hGx _) fun d a w' hG hF hA => ?_
      have x1 := hF.slot 0 _ (by decide) rfl
      exact wp_value (w' := w') (v := .pointer (some ⟨b1, 0, none⟩)) (by simp only [execOp, x1]; simp [go_sem]) ⟨_, rfl, rfl, Ext.refl _⟩
    · refine dutyS_ext (hGx _) fun d a w' hG hF hA => ?_
      have x1 := hA.val 0 14 rfl rfl ⟨⟨0, .data⟩, by simp, rfl, rfl⟩ rfl
      exact wp_value (ex_nilCheck rfl _ x1) ⟨_, rfl, rfl, Ext.refl _⟩
    · refine dutyS_ext (hGx _) fun d a w' hG hF hA => ?_
      have x1 := hA.val 1 15 rfl rfl ⟨⟨1, .data⟩, by simp, rfl, rfl⟩ rfl
      exact wp_value (w' := w') (v := .pointer (some ⟨b1, 0, none⟩)) (by simp only [execOp, x1]; simp [go_sem]) ⟨_, rfl, rfl, Ext.refl _⟩
    · refine dutyS_ext (hGx _) fun d a w' hG hF hA => ?_
      have x1 := hA.val 2 16 rfl rfl ⟨⟨2, .data⟩, by simp, rfl, rfl⟩ rfl
      have hc := HX1.out 0
      exact wp_value (ex_cell rfl _ _ x1 ((hG.cell (p := ⟨b1, 0, none⟩) (World.block_lt_of_cell? _ _ hc)).trans hc) rfl Tryz.underlying120) ⟨_, rfl, rfl, Ext.refl _⟩
    · refine dutyS_ext (hGx _) fun d a w' hG hF hA => ?_
      have x1 := hF.slot 1 _ (by decide) rfl
      exact wp_value (w' := w') (v := .pointer (some ⟨b2, 0, none⟩)) (by simp only [execOp, x1]; simp [go_sem]) ⟨_, rfl, rfl, Ext.refl _⟩
    · refine dutyS_ext (hGx _) fun d a w' hG hF hA => ?_
      have x1 := hA.val 4 18 rfl rfl ⟨⟨4, .data⟩, by simp, rfl, rfl⟩ rfl
      exact wp_value (ex_nilCheck rfl _ x1) ⟨_, rfl, rfl, Ext.refl _⟩
    · refine dutyS_ext (hGx _) fun d a w' hG hF hA => ?_
      have x1 := hA.val 5 19 rfl rfl ⟨⟨5, .data⟩, by simp, rfl, rfl⟩ rfl
      exact wp_value (w' := w') (v := .pointer (some ⟨b2, 0, none⟩)) (by simp only [execOp, x1]; simp [go_sem]) ⟨_, rfl, rfl, Ext.refl _⟩
    · refine dutyS_ext (hGx _) fun d a w' hG hF hA => ?_
      have x1 := hA.val 6 20 rfl rfl ⟨⟨6, .data⟩, by simp, rfl, rfl⟩ rfl
      have hc := HX2.out 0
      exact wp_value (ex_cell rfl _ _ x1 ((hG.cell (p := ⟨b2, 0, none⟩) (World.block_lt_of_cell? _ _ hc)).trans hc) rfl Tryz.underlying120) ⟨_, rfl, rfl, Ext.refl _⟩
    · refine dutyS_ext (hGx _) fun d a w' hG hF hA => ?_
      have x1 := hA.val 3 17 rfl rfl ⟨⟨3, .data⟩, by simp, rfl, rfl⟩ rfl
      have x2 := hA.val 7 21 rfl rfl ⟨⟨7, .data⟩, by simp, rfl, rfl⟩ rfl
      refine wp_enter (ex_call rfl (enters_f Tryz.func97 (by kernel_rfl) rfl)) (by simp only [List.map_toArray, List.map_cons, List.map_nil, x1, x2]; exact HC.out w' hG) ?_
      rintro e w4 ⟨rfl, h4⟩
      exact ⟨_, rfl, _, rfl, rfl, h4⟩
    · refine dutyS_ext (hGx _) fun d a w' hG hF hA => ?_
      have x1 := hA.val 8 22 rfl rfl ⟨⟨8, .data⟩, by simp, rfl, rfl⟩ rfl
      exact wp_value (w' := w') (v := .bool (sameM M M2)) (by simp only [execOp, x1]; simp [go_sem]) ⟨_, rfl, rfl, Ext.refl _⟩
  case rest =>
    intro d W4 hdn hG4
    have HE := Lib.hid hG4
    clear hG4 hdn hG0 hGx HC
    simp only [filled, List.zip_cons_cons, List.zip_nil_left, List.foldl_cons, List.foldl_nil, Act.put, List.setIfInBounds_toArray, List.set_cons_succ, List.set_cons_zero, Exit.inBlock, Exit.then]
    rename_i hK
    refine hK _ _ ?_
    clear hK
    go_wp2
    go_ret
    exact ⟨rfl, HE.out⟩
end Go.Proofs.YthinpbdbhijbgaaGreatDoor
