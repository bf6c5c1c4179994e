/- The walk of stat.Same at any two nodes. The walks of maps.EqualFunc at any two maps of nodes, of tree.Same and of arborref07's Same at any two trees. A region that draws its order, whose operations' values are either told or have a property that new memory leaves. The walk of arborref07's Same at any two trees. The walks of stat.Life and arborref05's Life: how long a node may live. A text is appended to a row of the call's own: one law for the walk. -/
import Derived.Test.YthinpbdbhijbgaaGreatDoorJTreePlays18
import Derived.Test.YthinpbdbhijbgaaGreatDoorJTreePlays19
import Derived.Test.YthinpbdbhijbgaaGreatDoorJTreePlays20
import Derived.Test.YthinpbdbhijbgaaGreatDoorJTreePlays21
import Derived.Test.YthinpbdbhijbgaaGreatDoorJTreePlays14
import Derived.Test.YthinpbdbhijbgaaGreatDoorJTreePlays8
import Derived.Test.YthinpbdbhijbgaaGreatDoorJTreePlays7
import Derived.Test.YthinpbdbhijbgaaGreatDoorJTreePlays15
import Derived.Test.YthinpbdbhijbgaaGreatDoorJTreePlays13
import Derived.Test.YthinpbdbhijbgaaGreatDoorJTreePlays11
namespace Go.Proofs.YthinpbdbhijbgaaGreatDoor
open Go.RowKit

theorem ssame_any (x y : Nd) (da aa db ab : Option Addr) (dc ac dd ad : Nat) (w : World) (hf : Fit x) (hf' : Fit y) (hD : Cells w.heap.size w da (x.data.map u8v)) (hA : Cells w.heap.size w aa (acCs x.acl)) (hD' : Cells w.heap.size w db (y.data.map u8v)) (hA' : Cells w.heap.size w ab (acCs y.acl)) :
    Calls Tryz.prog 98 #[.agg (ndC x (.slice da x.data.length dc) (.slice aa x.acl.length ac)), .agg (ndC y (.slice db y.data.length dd) (.slice ab y.acl.length ad))] w fun e w' => e = .returned (.bool (sameN x y)) ∧ Below w.heap.size w w' := by
  by_cases hxy : x = y
  · subst hxy
    rw [sameN_self]
    exact ssame_self x da aa db ab dc ac dd ad w hf hD hA hD' hA'
  rw [sameN_not hxy]
  by_cases q0 : x.data = y.data ∧ x.acl = y.acl ∧ x.path = y.path ∧ x.owner = y.owner
  rotate_left
  · exact ssame_p1 x y da aa db ab dc ac dd ad w hf hf' hD hA hD' hA' q0
  obtain ⟨h_data, h_acl, h_path, h_owner⟩ := q0
  by_cases q1 : x.czxid = y.czxid ∧ x.mzxid = y.mzxid ∧ x.pzxid = y.pzxid ∧ x.azxid = y.azxid
  rotate_left
  · exact ssame_p2 x y da aa db ab dc ac dd ad w hf hf' hD hA hD' hA' h_data h_acl h_path h_owner q1
  obtain ⟨h_czxid, h_mzxid, h_pzxid, h_azxid⟩ := q1
  by_cases q2 : x.qzxid = y.qzxid ∧ x.ctime = y.ctime ∧ x.mtime = y.mtime ∧ x.version = y.version
  rotate_left
  · exact ssame_p3 x y da aa db ab dc ac dd ad w hf hf' hD hA hD' hA' h_data h_acl h_path h_owner h_czxid h_mzxid h_pzxid h_azxid q2
  obtain ⟨h_qzxid, h_ctime, h_mtime, h_version⟩ := q2
  refine ssame_p4 x y da aa db ab dc ac dd ad w hf hf' hD hA hD' hA' h_data h_acl h_path h_owner h_czxid h_mzxid h_pzxid h_azxid h_qzxid h_ctime h_mtime h_version fun q => hxy ?_
  obtain ⟨h_creates, h_aversion, h_has, h_count, h_bytes⟩ := q
  cases x; cases y
  simp_all
end Go.Proofs.YthinpbdbhijbgaaGreatDoor
namespace Go.Proofs.YthinpbdbhijbgaaGreatDoor
open Go.RowKit
set_option maxHeartbeats 4000000
set_option maxRecDepth 100000

/-- Are two trees' nodes the same? -/
noncomputable def sameM (a b : List (Key × Nd)) : Bool := @decide (a = b) (Classical.propDecidable _)
theorem sameM_self (a : List (Key × Nd)) : sameM a a = true := by simp [sameM]
theorem sameM_not {a b : List (Key × Nd)} (h : a ≠ b) : sameM a b = false := by simp [sameM, h]
theorem sameM_of {a b : List (Key × Nd)} (ha : MSorted a) (hb : MSorted b) (hl : a.length = b.length) (h : ∀ k y, mget a k = some y → mget b k = some y) : sameM a b = true := by
  have hf : b.filter (fun x => @decide (x ∈ a) (Classical.propDecidable _)) = a := mem_ext_sorted (hb.filter _) ha fun x => by
    simp only [List.mem_filter, decide_eq_true_eq]
    exact ⟨fun h => h.2, fun hx => ⟨mget_some_mem (h x.1 x.2 (mget_of_mem ha hx)), hx⟩⟩
  have hsub := List.filter_sublist (l := b) (p := fun x => @decide (x ∈ a) (Classical.propDecidable _))
  have := hsub.eq_of_length (by rw [hf, hl])
  rw [hf] at this
  rw [this]
  exact sameM_self b

theorem eqf_any (S1 S2 : Nat → Prop) (w : World) (bn1 bn2 : Nat) (M M2 : List (Key × Nd)) (N1 N2 : Nat) (h1 : NodesAt S1 w bn1 M N1) (h2 : NodesAt S2 w bn2 M2 N2) (hS1 : ∀ k, S1 k → k < w.heap.size) (hS2 : ∀ k, S2 k → k < w.heap.size) :
    Calls Tryz.prog 97 #[.map (some bn1), .map (some bn2), .func (.func 98) #[] #[]] w fun e w' => e = .returned (.bool (sameM M M2)) ∧ Ext w w' := by
  have hok := h1.ok
  have hok2 := h2.ok
  obtain ⟨m1, hm1, hr1⟩ := h1.ex
  have hlt2 : bn2 < w.heap.size := by obtain ⟨m2, hm2, _⟩ := h2.ex; exact hm2.lt
  have hlen1 := fun ty => hm1.len (e := 44) Tryz.underlying120 ty
  have hlen2 : ∀ ty, (Builtin.len_ #[120] ty #[.map (some bn2)]).run Tryz.prog w = .ok (.int .i64 M2.length) w := fun ty => by
    obtain ⟨m2, hm2, hr2⟩ := h2.ex
    rw [hr2.length]
    exact hm2.len (e := 44) Tryz.underlying120 ty
  rw [← hr1.length] at hlen1
  have HR1 := Lib.hid hr1
  have H2 := Lib.hid h2
  have HOK := Lib.hid hok
  have HOK2 := Lib.hid hok2
  have HM1 := hm1
  clear h1 h2 hm1 hr1 hok hok2
  by_cases hlen : M.length = M2.length
  rotate_left
  · have HFIN := Lib.hid (sameM_not (a := M) (b := M2) fun e => hlen (by rw [e]))
    have f1 : ((M.length : Int) != (M2.length : Int)) = true := by simp; omega
    have f2 : ((M.length : Int) == (M2.length : Int)) = false := by simp; omega
    go_enter Tryz.func97, Tryz.ntmps97
    go_wp2
    go_ret
    exact ⟨by rw [HFIN.out]; rfl, Ext.refl _⟩
  rw [← hlen] at hlen2
  have HLEN := Lib.hid hlen
  clear hlen
  go_enter Tryz.func97, Tryz.ntmps97
  go_wp2_with (at_range; refine wpList_range_own _ rfl _ 120 rfl 9 44 (Maps.string_keyed strT) Tryz.underlying120 Rv bn1 _ _ rfl HM1 ?_; intro w0 hrg0 hg0 hs0)
  go_frame
  have hE0 : Ext w w0 := ⟨hg0.os, hg0.tape, hg0.output, hg0.size, fun k hk => hg0.block k hk (by simp)⟩
  have hb1 := HM1.lt
  have HRG0 := Lib.hid hrg0
  have HE0 := Lib.hid hE0
  clear HM1 hlen1 hlen2 hrg0 hg0 hs0 hE0
  go_loopw [6] (fun r wr => ∃ (left : Lit → Bool) (cnt : Nat), r = .bool false ∧ wr.ranges Tryz.prog 9 Rv bn1 w.heap.size m1.length (kvD m1) left cnt ∧ Hid (∀ k y, mget M k = some y → left (.string k) = false → mget M2 k = some y) ∧ Ext w wr) (fun _ wr => wr.rangeLeft bn1 w.heap.size)
  case atStart =>
    refine ⟨_, _, rfl, HRG0.out, fun k y hk hl => ?_, HE0.out⟩
    rw [kvD_has] at hl
    rcases HR1.out.get k with ⟨h3, _⟩ | ⟨y, v, _, h3, _⟩
    · rw [h3] at hk; cases hk
    · rw [h3] at hl; cases hl
  case round =>
    obtain ⟨left, cnt, rfl, hrg, HG, hE⟩ := hrel
    have HE := Lib.hid hE
    clear hE
    go_wp2_with (at_next; refine wpList_next_left _ rfl _ rfl 9 strT bn1 w.heap.size _ m1 left cnt rfl hrg ?_ ?_)
    · intro hl0
      have HFIN := Lib.hid (sameM_of HOK.out.sorted HOK2.out.sorted HLEN.out fun k y hk => HG.out k y hk (hl0 _))
      clear hrg
      go_wp2
      go_ret
      exact ⟨by rw [HFIN.out]; rfl, HE.out⟩
    · intro s v w6 cnt6 hs _ hmg hrg6 hlt6 hg6 hsz6 hen
      obtain ⟨y, hy, hv⟩ : ∃ y, mget M s.data.toList = some y ∧ NdS S1 w v y := by
        rcases HR1.out.get s.data.toList with ⟨_, h2⟩ | ⟨y, u, h1, h2, h3⟩
        · rw [h2] at hmg; cases hmg
        · rw [h2] at hmg
          cases hmg
          exact ⟨y, h1, h3⟩
      have hEw6 : Ext w w6 := HE.out.trans' ⟨hg6.os, hg6.tape, hg6.output, hg6.size, fun i hi => hg6.block i (Nat.lt_of_lt_of_le hi HE.out.size) (fun e => by
        have := Option.some.inj e
        omega)⟩
      have hfit := HOK.out.fit s.data.toList
      rw [hy] at hfit
      simp only [Option.getD_some] at hfit
      obtain ⟨da, dc, aa, ac, rfl, hD, hA⟩ := hv
      obtain ⟨W7, hW7⟩ : ∃ W7, W7 = w6.alloc (.cells (ndC y (.slice da y.data.length dc) (.slice aa y.acl.length ac)) 44) := ⟨_, rfl⟩
      have hE7 : Ext w6 W7 := by rw [hW7]; exact Ext.alloc _ _
      have hz7 : W7.heap.size = w6.heap.size + 1 := by rw [hW7]; simp
      have hn7 : W7.heap[w6.heap.size]? = some (.cells (ndC y (.slice da y.data.length dc) (.slice aa y.acl.length ac)) 44 (0, 0)) := by rw [hW7]; exact heap_alloc_new _ _
      have hEw7 := hEw6.trans hE7
      have h27 : NodesAt S2 W7 bn2 M2 N2 := H2.out.keep (hEw7.block bn2 hlt2) (fun _ h => h) (fun b o u hb hu => (hEw7.cell (p := ⟨b, o, none⟩) (hS2 b hb)).trans hu) (Nat.le_refl _)
      obtain ⟨v2, hv2, hq, _⟩ := h27.look' s hs
      have hfit2 := HOK2.out.fit s.data.toList
      have hG2 := HG.out
      have HSTEP := Lib.hid (show mget M2 s.data.toList = some y → ∀ k y', mget M k = some y' → (left (.string k) && !(Lit.string k).sameKey (.string s.data.toList)) = false → mget M2 k = some y' from fun h2 k y' hk hl => by
        simp only [Bool.and_eq_false_iff, Bool.not_eq_false'] at hl
        rcases hl with hl | hl
        · exact hG2 k y' hk hl
        · have e : k = s.data.toList := by simpa [Lit.sameKey] using hl
          rw [e] at hk ⊢
          rw [hy] at hk
          rw [h2, Option.some.inj hk])
      have HNOT := Lib.hid (show mget M2 s.data.toList ≠ some y → sameM M M2 = false from fun h2 => sameM_not fun e => h2 (by rw [← e]; exact hy))
      obtain ⟨z, hz⟩ : ∃ z, z = (mget M2 s.data.toList).getD zeroN := ⟨_, rfl⟩
      rw [← hz] at hv2 hfit2
      obtain ⟨db, dd, ab, ad, rfl, hD2, hA2⟩ := hv2
      obtain ⟨W8, hW8⟩ : ∃ W8, W8 = W7.alloc (.cells (ndC z (.slice db z.data.length dd) (.slice ab z.acl.length ad)) 44) := ⟨_, rfl⟩
      have hE8 : Ext W7 W8 := by rw [hW8]; exact Ext.alloc _ _
      have hz8 : W8.heap.size = W7.heap.size + 1 := by rw [hW8]; simp
      have hn8 : W8.heap[W7.heap.size]? = some (.cells (ndC z (.slice db z.data.length dd) (.slice ab z.acl.length ad)) 44 (0, 0)) := by rw [hW8]; exact heap_alloc_new _ _
      have hn78 := (hE8.block w6.heap.size (by omega)).trans hn7
      have hE68 := hE7.trans hE8
      have CS := Lib.hid (ssame_any y z da aa db ab dc ac dd ad W8 hfit hfit2 (((hD.cells hS1).ext (hEw7.trans hE8))) ((hA.cells hS1).ext (hEw7.trans hE8)) ((hD2.cells fun b hb => Nat.lt_of_lt_of_le (hS2 b hb) hEw7.size).ext hE8) ((hA2.cells fun b hb => Nat.lt_of_lt_of_le (hS2 b hb) hEw7.size).ext hE8))
      have HRG8 := Lib.hid (hrg6.kept (grown_ext hE68 none) (by simp) (by simp))
      have HRG := Lib.hid hrg
      have HSET7 := Lib.hid ((setRow_alloc w6 zeroNd (ndC y (.slice da y.data.length dc) (.slice aa y.acl.length ac)) 44).trans hW7.symm)
      have HNew7 := Lib.hid (heap_alloc_new w6 (.cells zeroNd 44))
      have HSET8 := Lib.hid ((setRow_alloc W7 zeroNd (ndC z (.slice db z.data.length dd) (.slice ab z.acl.length ad)) 44).trans hW8.symm)
      have HNew8 := Lib.hid (heap_alloc_new W7 (.cells zeroNd 44))
      have HN78 := Lib.hid hn78
      have HN8 := Lib.hid hn8
      have HEW8 := Lib.hid (hEw7.trans hE8)
      have HLT := Lib.hid hlt6
      rw [hz7] at HSET8 HNew8 HN8
      unfold ndC at HSET7 HSET8 HN78 HN8 CS hq
      unfold zeroNd at HSET7 HNew7 HSET8 HNew8
      clear hrg hrg6 hg6 hsz6 hW7 hW8 hE7 hE8 hE68 hEw6 hEw7 hn7 hn8 hn78 h27 hD hA hD2 hA2 hmg hlt6 hfit hfit2 hG2 HG
      unfold ndC at hen
      cases hg2 : mget M2 s.data.toList with
      | none =>
        rw [hg2] at hq
        simp only [Option.isSome_none] at hq
        have HFIN := Lib.hid (HNOT.out (by rw [hg2]; simp))
        clear HSTEP HNOT hz hg2 CS hy HRG HRG8
        go_wp2_with (first | (refine wpList_store_row rfl 44 (.tmp 8) (.tmp 22) rfl w6.heap.size _ rfl rfl 44 _ HNew7.out sizeNd rfl (cells_node y da aa _ _ dc ac) ?_; rw [HSET7.out]) | (refine wpList_store_row rfl 44 (.tmp 9) (.tmp 27) rfl (w6.heap.size + 1) _ rfl rfl 44 _ HNew8.out sizeNd rfl (cells_node z db ab _ _ dd ad) ?_; rw [HSET8.out]))
        go_ret
        exact ⟨by rw [HFIN.out]; rfl, HEW8.out⟩
      | some z0 =>
        rw [hg2] at hq
        simp only [Option.isSome_some] at hq
        have hzz : z = z0 := by rw [hz, hg2]; rfl
        have CS := CS.out
        by_cases hyz : y = z
        · have hsn : sameN y z = true := by rw [hyz]; exact sameN_self _
          rw [hsn] at CS
          have CS := Lib.hid CS
          have HST := Lib.hid (HSTEP.out (by rw [hg2, hyz, hzz]))
          clear HSTEP HNOT hz hg2 hzz hsn hyz hy
          go_wp2_with (first | (refine wpList_store_row rfl 44 (.tmp 8) (.tmp 22) rfl w6.heap.size _ rfl rfl 44 _ HNew7.out sizeNd rfl (cells_node y da aa _ _ dc ac) ?_; rw [HSET7.out]) | (refine wpList_store_row rfl 44 (.tmp 9) (.tmp 27) rfl (w6.heap.size + 1) _ rfl rfl 44 _ HNew8.out sizeNd rfl (cells_node z db ab _ _ dd ad) ?_; rw [HSET8.out]) | (refine wpList_load_row_g rfl 44 (.tmp 8) rfl w6.heap.size rfl 44 _ (0, 0) _ HN78.out Tryz.underlying44 rfl sizeNd ?_) | (refine wpList_load_row_g rfl 44 (.tmp 9) rfl (w6.heap.size + 1) rfl 44 _ (0, 0) _ HN8.out Tryz.underlying44 rfl sizeNd ?_))
          refine CS.out.mono ?_
          rintro e w9 ⟨rfl, hE9⟩
          have hE9 : Ext W8 w9 := hE9
          have hrg9 := HRG8.out.kept (grown_ext hE9 none) (by simp) (by simp)
          have HREL := Lib.hid (show ∃ (left : Lit → Bool) (cnt : Nat), Value.bool false = .bool false ∧ w9.ranges Tryz.prog 9 Rv bn1 w.heap.size m1.length (kvD m1) left cnt ∧ Hid (∀ k y, mget M k = some y → left (.string k) = false → mget M2 k = some y) ∧ Ext w w9 from ⟨_, _, rfl, hrg9, HST.out, HEW8.out.trans hE9⟩)
          have HMS := Lib.hid (show w9.rangeLeft bn1 w.heap.size < wr.rangeLeft bn1 w.heap.size by rw [hrg9.left_eq, HRG.out.left_eq]; exact HLT.out)
          clear CS hE9 hrg9 HRG8 HRG HN78 HN8 HSET7 HSET8 HNew7 HNew8 hq hen HST
          go_wp2
          go_roundw
          case rel =>
            obtain ⟨l, c, _, h⟩ := HREL.out
            exact ⟨l, c, rfl, h⟩
          case measure => exact HMS.out
        · have hsn : sameN y z = false := sameN_not hyz
          rw [hsn] at CS
          have CS := Lib.hid CS
          have HFIN := Lib.hid (HNOT.out (by rw [hg2]; intro h; exact hyz (by rw [hzz]; exact (Option.some.inj h).symm)))
          clear HSTEP HNOT hz hg2 hzz hsn hyz hy HRG HRG8
          go_wp2_with (first | (refine wpList_store_row rfl 44 (.tmp 8) (.tmp 22) rfl w6.heap.size _ rfl rfl 44 _ HNew7.out sizeNd rfl (cells_node y da aa _ _ dc ac) ?_; rw [HSET7.out]) | (refine wpList_store_row rfl 44 (.tmp 9) (.tmp 27) rfl (w6.heap.size + 1) _ rfl rfl 44 _ HNew8.out sizeNd rfl (cells_node z db ab _ _ dd ad) ?_; rw [HSET8.out]) | (refine wpList_load_row_g rfl 44 (.tmp 8) rfl w6.heap.size rfl 44 _ (0, 0) _ HN78.out Tryz.underlying44 rfl sizeNd ?_) | (refine wpList_load_row_g rfl 44 (.tmp 9) rfl (w6.heap.size + 1) rfl 44 _ (0, 0) _ HN8.out Tryz.underlying44 rfl sizeNd ?_))
          refine CS.out.mono ?_
          rintro e w9 ⟨rfl, hE9⟩
          have HE9 := Lib.hid (HEW8.out.trans hE9)
          clear CS hE9 HN78 HN8 HSET7 HSET8 HNew7 HNew8 hq hen
          go_wp2
          go_ret
          exact ⟨by rw [HFIN.out]; rfl, HE9.out⟩

theorem tsame_any (S1 S2 : Nat → Prop) (w : World) (b1 b2 : Nat) (M M2 : List (Key × Nd)) (N1 N2 : Nat) (h1 : TreeAt S1 w b1 M N1) (h2 : TreeAt S2 w b2 M2 N2) :
    Calls Tryz.prog 31 #[.pointer (some ⟨b1, 0, none⟩), .pointer (some ⟨b2, 0, none⟩)] w fun e w' => e = .returned (.bool (sameM M M2)) ∧ Ext w w' := by
  have hB1 := h1.bound
  have hB2 := h2.bound
  obtain ⟨n1, k1, K1, hd1, hN1, _⟩ := h1
  obtain ⟨n2, k2, K2, hd2, hN2, _⟩ := h2
  have hx1 := TreeAt.box hd1
  have hx2 := TreeAt.box hd2
  have HC := Lib.hid fun (W : World) (hE : Ext w W) => eqf_any S1 S2 W n1 n2 M M2 N1 N2 (hN1.keep (hE.block n1 (hd1.bound _ hd1.sn)) (fun _ h => h) (fun b o u hb hu => (hE.cell (p := ⟨b, o, none⟩) (hB1 b hb)).trans hu) (Nat.le_refl _)) (hN2.keep (hE.block n2 (hd2.bound _ hd2.sn)) (fun _ h => h) (fun b o u hb hu => (hE.cell (p := ⟨b, o, none⟩) (hB2 b hb)).trans hu) (Nat.le_refl _))
    (fun k hk => Nat.lt_of_lt_of_le (hB1 k hk) hE.size) (fun k hk => Nat.lt_of_lt_of_le (hB2 k hk) hE.size)
  unfold Box treeC at hx1 hx2
  clear hd1 hd2 hN1 hN2 hB1 hB2
  go_enter Tryz.func31, Tryz.ntmps31
  have hG0 : Ext w w.drew := Ext.drew _
  have HX1 := Lib.hid hx1
  have HX2 := Lib.hid hx2
  have hGx : ∀ (i : Nat) (d d' : Nat → Bool) (u v : World), Ext w u → Ext u v → (∀ k, k ≠ i → d' k = d k) → Ext w v := fun _ _ _ _ _ h k _ => h.trans k
  clear hx1 hx2
  go_wp2
  refine wp_region_P (by kernel_rfl) (region_state_vals 23 (fun _ W => Ext w W) hG0 [.pointer (some ⟨b1, 0, none⟩), .pointer (some ⟨b1, 0, none⟩), .pointer (some ⟨b1, 0, none⟩), .map (some n1), .pointer (some ⟨b2, 0, none⟩), .pointer (some ⟨b2, 0, none⟩), .pointer (some ⟨b2, 0, none⟩), .map (some n2), .bool (sameM M M2), .bool (sameM M M2)] rfl (by decide) rfl ?duties ?rest)
  case duties =>
    refine ⟨?_, ?_, ?_, ?_, ?_, ?_, ?_, ?_, ?_, ?_, trivial⟩
    · refine dutyS_ext (hGx _) fun d a w' hG hF hA => ?_
      have x1 := hF.slot 0 _ (by decide) rfl
      exact wp_value (w' := w') (v := .pointer (some ⟨b1, 0, none⟩)) (by simp only [execOp, x1]; simp [go_sem]) ⟨_, rfl, rfl, Ext.refl _⟩
    · refine dutyS_ext (hGx _) fun d a w' hG hF hA => ?_
      have x1 := hA.val 0 14 rfl rfl ⟨⟨0, .data⟩, by simp, rfl, rfl⟩ rfl
      exact wp_value (ex_nilCheck rfl _ x1) ⟨_, rfl, rfl, Ext.refl _⟩
    · refine dutyS_ext (hGx _) fun d a w' hG hF hA => ?_
      have x1 := hA.val 1 15 rfl rfl ⟨⟨1, .data⟩, by simp, rfl, rfl⟩ rfl
      exact wp_value (w' := w') (v := .pointer (some ⟨b1, 0, none⟩)) (by simp only [execOp, x1]; simp [go_sem]) ⟨_, rfl, rfl, Ext.refl _⟩
    · refine dutyS_ext (hGx _) fun d a w' hG hF hA => ?_
      have x1 := hA.val 2 16 rfl rfl ⟨⟨2, .data⟩, by simp, rfl, rfl⟩ rfl
      have hc := HX1.out 0
      exact wp_value (ex_cell rfl _ _ x1 ((hG.cell (p := ⟨b1, 0, none⟩) (World.block_lt_of_cell? _ _ hc)).trans hc) rfl Tryz.underlying120) ⟨_, rfl, rfl, Ext.refl _⟩
    · refine dutyS_ext (hGx _) fun d a w' hG hF hA => ?_
      have x1 := hF.slot 1 _ (by decide) rfl
      exact wp_value (w' := w') (v := .pointer (some ⟨b2, 0, none⟩)) (by simp only [execOp, x1]; simp [go_sem]) ⟨_, rfl, rfl, Ext.refl _⟩
    · refine dutyS_ext (hGx _) fun d a w' hG hF hA => ?_
      have x1 := hA.val 4 18 rfl rfl ⟨⟨4, .data⟩, by simp, rfl, rfl⟩ rfl
      exact wp_value (ex_nilCheck rfl _ x1) ⟨_, rfl, rfl, Ext.refl _⟩
    · refine dutyS_ext (hGx _) fun d a w' hG hF hA => ?_
      have x1 := hA.val 5 19 rfl rfl ⟨⟨5, .data⟩, by simp, rfl, rfl⟩ rfl
      exact wp_value (w' := w') (v := .pointer (some ⟨b2, 0, none⟩)) (by simp only [execOp, x1]; simp [go_sem]) ⟨_, rfl, rfl, Ext.refl _⟩
    · refine dutyS_ext (hGx _) fun d a w' hG hF hA => ?_
      have x1 := hA.val 6 20 rfl rfl ⟨⟨6, .data⟩, by simp, rfl, rfl⟩ rfl
      have hc := HX2.out 0
      exact wp_value (ex_cell rfl _ _ x1 ((hG.cell (p := ⟨b2, 0, none⟩) (World.block_lt_of_cell? _ _ hc)).trans hc) rfl Tryz.underlying120) ⟨_, rfl, rfl, Ext.refl _⟩
    · refine dutyS_ext (hGx _) fun d a w' hG hF hA => ?_
      have x1 := hA.val 3 17 rfl rfl ⟨⟨3, .data⟩, by simp, rfl, rfl⟩ rfl
      have x2 := hA.val 7 21 rfl rfl ⟨⟨7, .data⟩, by simp, rfl, rfl⟩ rfl
      refine wp_enter (ex_call rfl (enters_f Tryz.func97 (by kernel_rfl) rfl)) (by simp only [List.map_toArray, List.map_cons, List.map_nil, x1, x2]; exact HC.out w' hG) ?_
      rintro e w4 ⟨rfl, h4⟩
      exact ⟨_, rfl, _, rfl, rfl, h4⟩
    · refine dutyS_ext (hGx _) fun d a w' hG hF hA => ?_
      have x1 := hA.val 8 22 rfl rfl ⟨⟨8, .data⟩, by simp, rfl, rfl⟩ rfl
      exact wp_value (w' := w') (v := .bool (sameM M M2)) (by simp only [execOp, x1]; simp [go_sem]) ⟨_, rfl, rfl, Ext.refl _⟩
  case rest =>
    intro d W4 hdn hG4
    have HE := Lib.hid hG4
    clear hG4 hdn hG0 hGx HC
    simp only [filled, List.zip_cons_cons, List.zip_nil_left, List.foldl_cons, List.foldl_nil, Act.put, List.setIfInBounds_toArray, List.set_cons_succ, List.set_cons_zero, Exit.inBlock, Exit.then]
    rename_i hK
    refine hK _ _ ?_
    clear hK
    go_wp2
    go_ret
    exact ⟨rfl, HE.out⟩
end Go.Proofs.YthinpbdbhijbgaaGreatDoor
namespace Go.Proofs.YthinpbdbhijbgaaGreatDoor
open Go.RowKit
inductive Sp where
  | val (v : Value)
  | prop (p : Value → World → Prop)
def Sp.ok : Sp → Value → World → Prop
  | .val x, v, _ => v = x
  | .prop p, v, w => p v w
def spP (l : List Sp) (i : Nat) (v : Value) (w : World) : Prop := match l[i]? with
  | some s => s.ok v w
  | none => False
/-- The properties stay. -/
def stayS : List Sp → Prop
  | [] => True
  | .val _ :: r => stayS r
  | .prop p :: r => (∀ v w w', p v w → Ext w w' → p v w') ∧ stayS r
theorem stayS.at : ∀ {l : List Sp}, stayS l → ∀ (i : Nat) (s : Sp), l[i]? = some s → ∀ v w w', s.ok v w → Ext w w' → s.ok v w'
  | [], _, i, s, h, _, _, _, _, _ => by simp at h
  | .val _ :: r, h, 0, s, hs, v, w, w', hv, _ => by simp at hs; subst hs; exact hv
  | .prop p :: r, h, 0, s, hs, v, w, w', hv, hE => by simp at hs; subst hs; exact h.1 v w w' hv hE
  | .val _ :: r, h, i + 1, s, hs, v, w, w', hv, hE => stayS.at (l := r) h i s (by simpa using hs) v w w' hv hE
  | .prop p :: r, h, i + 1, s, hs, v, w, w', hv, hE => stayS.at (l := r) h.2 i s (by simpa using hs) v w w' hv hE
/-- For all values that are as told. -/
def forS : List Sp → World → (List Value → Prop) → Prop
  | [], _, K => K []
  | .val v :: r, w, K => forS r w fun t => K (v :: t)
  | .prop p :: r, w, K => ∀ u, p u w → forS r w fun t => K (u :: t)
theorem forS_all : ∀ (l : List Sp) (w : World) (K : List Value → Prop), forS l w K → ∀ us : List Value, us.length = l.length → (∀ i u, us[i]? = some u → spP l i u w) → K us
  | [], w, K, h, us, hl, _ => by
    obtain rfl := List.eq_nil_of_length_eq_zero (by simpa using hl)
    exact h
  | .val v :: r, w, K, h, [], hl, _ => by simp at hl
  | .prop v :: r, w, K, h, [], hl, _ => by simp at hl
  | .val v :: r, w, K, h, u :: us, hl, hP => by
    have hu : u = v := hP 0 u rfl
    subst hu
    exact forS_all r w _ h us (by simpa using hl) fun i x hx => hP (i + 1) x (by simpa using hx)
  | .prop p :: r, w, K, h, u :: us, hl, hP => by
    have hu : p u w := hP 0 u rfl
    exact forS_all r w _ (h u hu) us (by simpa using hl) fun i x hx => hP (i + 1) x (by simpa using hx)
section
variable {P : Program} {ops : Array Oper} {Q : Exit → Act → World → Prop} {a0 : Act} {w0 : World}
theorem Ahead.pick {Φ : Nat → Value → World → Prop} {o p : Oper} {a : Act} {w : World} (h : Ahead ops Φ o a w) (j : Nat) (d : Tmp) (v : Value) (hp : ops[j]? = some p) (hd : p.dst = some d) (he : ∃ e ∈ o.after.toList, e.on = j ∧ Region.binds .any e = true) (hv : ∀ u, Φ j u w → u = v) : a.eval (.tmp d) = v :=
  hv _ (h.slot j d hp hd he)
/-- An operation whose guard says no. -/
theorem duty_no {Φ : Nat → Value → World → Prop} {i j : Nat} {b : Bool} {o p : Oper} {d : Tmp} (hg : o.guard = some (j, b)) (hp : ops[j]? = some p) (hd : p.dst = some d) (hin : d < a0.tmps.size) (he : ∃ e ∈ o.after.toList, e.on = j ∧ Region.binds .any e = true)
    (hv : ∀ v w, Φ j v w → v = .bool (!b)) (h : ∀ w, Φ i undef w) : Duty P ops Q Φ a0 w0 i o := by
  intro a w hE hF hA
  obtain ⟨e, hem, rfl, heb⟩ := he
  have hval := hv _ _ (hA e hem heb p hp)
  have : Region.wanted o (yielded ops a.tmps) = false := by
    unfold Region.wanted
    rw [hg]
    have hlt : d < a.tmps.size := by rw [hF.2.1]; exact hin
    unfold valOf at hval
    rw [hd] at hval
    simp only [Array.getD_eq_getD_getElem?, Array.getElem?_eq_getElem hlt, Option.getD_some] at hval
    cases b <;> simp [yielded, hp, hd, Array.getElem?_eq_getElem hlt, hval]
  rw [this]
  simp only [Bool.false_eq_true, if_false]
  exact h w
theorem region_sp (m : Nat) (sp : List Sp) (hst : stayS sp) (hlen : sp.length = ops.toList.length) (hchk : (dstsOk ops && aheadB ops && (ops.toList.all fun o => o.dst.any fun d => decide (d < m))) = true) (hsz : a0.tmps.size = m)
    (hd : Duties P ops Q (spP sp) a0 w0 0 ops.toList)
    (hend : ∀ w, Ext w0 w → forS sp w fun us => Q .normal (filled ops.toList us a0) w) : RegionP P ops Q a0 w0 := by
  have hall := hchk
  simp only [Bool.and_eq_true] at hall
  refine region_rel_e m Ext Ext.refl (fun _ _ _ => Ext.trans) Ext.drew (spP sp) (fun i v w w' h hE => ?_) (fun i v w h ho => ?_) ?_ hsz (duties_rel _ _ hd) fun us w hE hl hP => ?_
  · unfold spP at h ⊢
    cases hs : sp[i]? with
    | none => rw [hs] at h; exact h.elim
    | some s => rw [hs] at h; exact hst.at i s hs v w w' h hE
  · exfalso
    cases hoi : ops[i]? with
    | none => rw [hoi] at ho; cases ho
    | some o =>
      rw [hoi] at ho
      have := List.all_eq_true.1 hall.2 o (List.mem_of_getElem? (i := i) (by simpa using hoi))
      cases hd : o.dst with
      | none => rw [hd] at this; cases this
      | some d => simp [hd] at ho
  · simp only [Bool.and_eq_true]
    refine ⟨hall.1, List.all_eq_true.2 fun o ho => ?_⟩
    have := List.all_eq_true.1 hall.2 o ho
    cases hd : o.dst with
    | none => rfl
    | some d => rw [hd] at this; simpa using this
  · exact forS_all sp w _ (hend w hE) us (by rw [hl, hlen]) hP
end
end Go.Proofs.YthinpbdbhijbgaaGreatDoor
namespace Go.Proofs.YthinpbdbhijbgaaGreatDoor
open Go.RowKit Go.Sort
set_option maxHeartbeats 4000000
set_option maxRecDepth 100000

theorem nds_inj {M1 M2 : List (Key × Nd)} (h1 : ∀ x ∈ M1, x.1 = keyN x.2) (h2 : ∀ x ∈ M2, x.1 = keyN x.2) (h : nds M1 = nds M2) : M1 = M2 := by
  have e : ∀ {M : List (Key × Nd)}, (∀ x ∈ M, x.1 = keyN x.2) → M = (nds M).map fun n => (keyN n, n) := fun {M} h => by
    unfold nds
    rw [List.map_map]
    exact ((List.map_congr_left (g := id) fun x hx => (Prod.ext (h x hx).symm rfl : (keyN x.2, x.2) = x)).trans (List.map_id _)).symm
  rw [e h1, e h2, h]
theorem sameM_nds {M1 M2 : List (Key × Nd)} (h1 : MOk M1) (h2 : MOk M2) (hl : M1.length = M2.length) (h : ∀ (j : Nat) x y, (nds M1)[j]? = some x → (nds M2)[j]? = some y → x = y) : sameM M1 M2 = true := by
  have e : M1 = M2 := nds_inj h1.key h2.key (List.ext_getElem (by rw [nds_length, nds_length, hl]) fun j p q => h j _ _ (List.getElem?_eq_getElem p) (List.getElem?_eq_getElem q))
  rw [e]; exact sameM_self _

theorem rsame7_any (w : World) (b1 b2 : Nat) (M1 M2 : List (Key × Nd)) (hR1 : RT w b1 (nds M1)) (hR2 : RT w b2 (nds M2)) (h1 : MOk M1) (h2 : MOk M2) :
    Calls Tryz.prog 32 #[.pointer (some ⟨b1, 0, none⟩), .pointer (some ⟨b2, 0, none⟩)] w fun e w' => e = .returned (.bool (sameM M1 M2)) ∧ Ext w w' := by
  obtain ⟨a1, c1, vs1, hb1, hl1, hm1, hS1, hr1, _⟩ := hR1
  obtain ⟨a2, c2, vs2, hb2, hl2, hm2, hS2, hr2, _⟩ := hR2
  have hc1 : w.cell? ⟨b1, 0, none⟩ = some (.slice a1 M1.length c1) := by rw [← nds_length M1]; exact cell_of_row _ _ _ _ _ _ hb1
  have hc2 : w.cell? ⟨b2, 0, none⟩ = some (.slice a2 M2.length c2) := by rw [← nds_length M2]; exact cell_of_row _ _ _ _ _ _ hb2
  rw [nds_length] at hl1 hl2
  have h64 : M1.length ≤ 9223372036854775807 := by unfold maxLen at hm1; omega
  have HC1 := Lib.hid hc1
  have HC2 := Lib.hid hc2
  have HR1 := Lib.hid hr1
  have HR2 := Lib.hid hr2
  have HS1 := Lib.hid hS1
  have HS2 := Lib.hid hS2
  have HM1 := Lib.hid h1
  have HM2 := Lib.hid h2
  clear hc1 hc2 hr1 hr2 hS1 hS2 hb1 hb2 h1 h2
  by_cases hlen : M1.length = M2.length
  rotate_left
  · have HF := Lib.hid (sameM_not (a := M1) (b := M2) fun e => hlen (by rw [e]))
    have f1 : ((M1.length : Int) != (M2.length : Int)) = true := by simp; omega
    go_enter Tryz.func32, Tryz.ntmps32
    go_wp2
    refine wp_region_P (by kernel_rfl) (region_sp 51 [.val (.pointer (some ⟨b1, 0, none⟩)), .val (.pointer (some ⟨b1, 0, none⟩)), .val (.pointer (some ⟨b1, 0, none⟩)), .val (.slice a1 M1.length c1), .val (.int .i64 M1.length), .val (.pointer (some ⟨b2, 0, none⟩)), .val (.pointer (some ⟨b2, 0, none⟩)), .val (.pointer (some ⟨b2, 0, none⟩)), .val (.slice a2 M2.length c2), .val (.int .i64 M2.length), .val (.bool true)] ?stay rfl (by decide) rfl ?duties ?rest)
    case duties =>
      refine ⟨?_, ?_, ?_, ?_, ?_, ?_, ?_, ?_, ?_, ?_, ?_, trivial⟩
      · refine duty_free rfl fun a w' hE hF hA => ?_
        have x1 := hF.slot 0 _ (by decide) rfl
        exact wp_value (w' := w') (ex_move rfl) ⟨_, rfl, x1, Ext.refl _⟩
      · refine duty_free rfl fun a w' hE hF hA => ?_
        have x1 := hA.pick 0 15 (.pointer (some ⟨b1, 0, none⟩)) rfl rfl ⟨⟨0, .data⟩, by simp, rfl, rfl⟩ (fun u h => h)
        exact wp_value (ex_nilCheck rfl _ x1) ⟨_, rfl, rfl, Ext.refl _⟩
      · refine duty_free rfl fun a w' hE hF hA => ?_
        have x1 := hA.pick 1 16 (.pointer (some ⟨b1, 0, none⟩)) rfl rfl ⟨⟨1, .data⟩, by simp, rfl, rfl⟩ (fun u h => h)
        exact wp_value (w' := w') (v := .pointer (some ⟨b1, 0, none⟩)) (by simp only [execOp, x1]; simp [go_sem]) ⟨_, rfl, rfl, Ext.refl _⟩
      · refine duty_free rfl fun a w' hE hF hA => ?_
        have x1 := hA.pick 2 17 (.pointer (some ⟨b1, 0, none⟩)) rfl rfl ⟨⟨2, .data⟩, by simp, rfl, rfl⟩ (fun u h => h)
        exact wp_value (ex_cell rfl _ _ x1 ((hE.cell (World.block_lt_of_cell? _ _ HC1.out)).trans HC1.out) rfl Tryz.underlying50) ⟨_, rfl, rfl, Ext.refl _⟩
      · refine duty_free rfl fun a w' hE hF hA => ?_
        have x1 := hA.pick 3 18 (.slice a1 M1.length c1) rfl rfl ⟨⟨3, .data⟩, by simp, rfl, rfl⟩ (fun u h => h)
        exact wp_value (w' := w') (v := .int .i64 M1.length) (by simp only [execOp, resolve, invoke, builtin, Sem.run_bind, Sem.run_pure, Result.andThen_ok, List.map_toArray, List.map_cons, List.map_nil, x1]; simp [go_sem]) ⟨_, rfl, rfl, Ext.refl _⟩
      · refine duty_free rfl fun a w' hE hF hA => ?_
        have x1 := hF.slot 1 _ (by decide) rfl
        exact wp_value (w' := w') (ex_move rfl) ⟨_, rfl, x1, Ext.refl _⟩
      · refine duty_free rfl fun a w' hE hF hA => ?_
        have x1 := hA.pick 5 20 (.pointer (some ⟨b2, 0, none⟩)) rfl rfl ⟨⟨5, .data⟩, by simp, rfl, rfl⟩ (fun u h => h)
        exact wp_value (ex_nilCheck rfl _ x1) ⟨_, rfl, rfl, Ext.refl _⟩
      · refine duty_free rfl fun a w' hE hF hA => ?_
        have x1 := hA.pick 6 21 (.pointer (some ⟨b2, 0, none⟩)) rfl rfl ⟨⟨6, .data⟩, by simp, rfl, rfl⟩ (fun u h => h)
        exact wp_value (w' := w') (v := .pointer (some ⟨b2, 0, none⟩)) (by simp only [execOp, x1]; simp [go_sem]) ⟨_, rfl, rfl, Ext.refl _⟩
      · refine duty_free rfl fun a w' hE hF hA => ?_
        have x1 := hA.pick 7 22 (.pointer (some ⟨b2, 0, none⟩)) rfl rfl ⟨⟨7, .data⟩, by simp, rfl, rfl⟩ (fun u h => h)
        exact wp_value (ex_cell rfl _ _ x1 ((hE.cell (World.block_lt_of_cell? _ _ HC2.out)).trans HC2.out) rfl Tryz.underlying50) ⟨_, rfl, rfl, Ext.refl _⟩
      · refine duty_free rfl fun a w' hE hF hA => ?_
        have x1 := hA.pick 8 23 (.slice a2 M2.length c2) rfl rfl ⟨⟨8, .data⟩, by simp, rfl, rfl⟩ (fun u h => h)
        exact wp_value (w' := w') (v := .int .i64 M2.length) (by simp only [execOp, resolve, invoke, builtin, Sem.run_bind, Sem.run_pure, Result.andThen_ok, List.map_toArray, List.map_cons, List.map_nil, x1]; simp [go_sem]) ⟨_, rfl, rfl, Ext.refl _⟩
      · refine duty_free rfl fun a w' hE hF hA => ?_
        have x1 := hA.pick 4 19 (.int .i64 M1.length) rfl rfl ⟨⟨4, .data⟩, by simp, rfl, rfl⟩ (fun u h => h)
        have x2 := hA.pick 9 24 (.int .i64 M2.length) rfl rfl ⟨⟨9, .data⟩, by simp, rfl, rfl⟩ (fun u h => h)
        exact wp_value (w' := w') (v := .bool true) (by simp only [execOp, x1, x2]; simp [go_sem, f1]) ⟨_, rfl, rfl, Ext.refl _⟩
    case stay => exact trivial
    case rest =>
      intro W5 hE5
      have HE5 := Lib.hid hE5
      clear hE5
      simp only [forS]
      simp only [filled, List.zip_cons_cons, List.zip_nil_left, List.foldl_cons, List.foldl_nil, Act.put, List.setIfInBounds_toArray, List.set_cons_succ, List.set_cons_zero, Exit.inBlock, Exit.then]
      rename_i hK
      refine hK _ _ ?_
      clear hK
      go_wp2
      go_ret
      exact ⟨by rw [HF.out]; rfl, HE5.out⟩
  · have f1 : ((M1.length : Int) != (M2.length : Int)) = false := by simp; omega
    have HLEN := Lib.hid hlen
    go_enter Tryz.func32, Tryz.ntmps32
    go_wp2
    refine wp_region_P (by kernel_rfl) (region_sp 51 [.val (.pointer (some ⟨b1, 0, none⟩)), .val (.pointer (some ⟨b1, 0, none⟩)), .val (.pointer (some ⟨b1, 0, none⟩)), .val (.slice a1 M1.length c1), .val (.int .i64 M1.length), .val (.pointer (some ⟨b2, 0, none⟩)), .val (.pointer (some ⟨b2, 0, none⟩)), .val (.pointer (some ⟨b2, 0, none⟩)), .val (.slice a2 M2.length c2), .val (.int .i64 M2.length), .val (.bool false)] ?stay rfl (by decide) rfl ?duties ?rest)
    case duties =>
      refine ⟨?_, ?_, ?_, ?_, ?_, ?_, ?_, ?_, ?_, ?_, ?_, trivial⟩
      · refine duty_free rfl fun a w' hE hF hA => ?_
        have x1 := hF.slot 0 _ (by decide) rfl
        exact wp_value (w' := w') (ex_move rfl) ⟨_, rfl, x1, Ext.refl _⟩
      · refine duty_free rfl fun a w' hE hF hA => ?_
        have x1 := hA.pick 0 15 (.pointer (some ⟨b1, 0, none⟩)) rfl rfl ⟨⟨0, .data⟩, by simp, rfl, rfl⟩ (fun u h => h)
        exact wp_value (ex_nilCheck rfl _ x1) ⟨_, rfl, rfl, Ext.refl _⟩
      · refine duty_free rfl fun a w' hE hF hA => ?_
        have x1 := hA.pick 1 16 (.pointer (some ⟨b1, 0, none⟩)) rfl rfl ⟨⟨1, .data⟩, by simp, rfl, rfl⟩ (fun u h => h)
        exact wp_value (w' := w') (v := .pointer (some ⟨b1, 0, none⟩)) (by simp only [execOp, x1]; simp [go_sem]) ⟨_, rfl, rfl, Ext.refl _⟩
      · refine duty_free rfl fun a w' hE hF hA => ?_
        have x1 := hA.pick 2 17 (.pointer (some ⟨b1, 0, none⟩)) rfl rfl ⟨⟨2, .data⟩, by simp, rfl, rfl⟩ (fun u h => h)
        exact wp_value (ex_cell rfl _ _ x1 ((hE.cell (World.block_lt_of_cell? _ _ HC1.out)).trans HC1.out) rfl Tryz.underlying50) ⟨_, rfl, rfl, Ext.refl _⟩
      · refine duty_free rfl fun a w' hE hF hA => ?_
        have x1 := hA.pick 3 18 (.slice a1 M1.length c1) rfl rfl ⟨⟨3, .data⟩, by simp, rfl, rfl⟩ (fun u h => h)
        exact wp_value (w' := w') (v := .int .i64 M1.length) (by simp only [execOp, resolve, invoke, builtin, Sem.run_bind, Sem.run_pure, Result.andThen_ok, List.map_toArray, List.map_cons, List.map_nil, x1]; simp [go_sem]) ⟨_, rfl, rfl, Ext.refl _⟩
      · refine duty_free rfl fun a w' hE hF hA => ?_
        have x1 := hF.slot 1 _ (by decide) rfl
        exact wp_value (w' := w') (ex_move rfl) ⟨_, rfl, x1, Ext.refl _⟩
      · refine duty_free rfl fun a w' hE hF hA => ?_
        have x1 := hA.pick 5 20 (.pointer (some ⟨b2, 0, none⟩)) rfl rfl ⟨⟨5, .data⟩, by simp, rfl, rfl⟩ (fun u h => h)
        exact wp_value (ex_nilCheck rfl _ x1) ⟨_, rfl, rfl, Ext.refl _⟩
      · refine duty_free rfl fun a w' hE hF hA => ?_
        have x1 := hA.pick 6 21 (.pointer (some ⟨b2, 0, none⟩)) rfl rfl ⟨⟨6, .data⟩, by simp, rfl, rfl⟩ (fun u h => h)
        exact wp_value (w' := w') (v := .pointer (some ⟨b2, 0, none⟩)) (by simp only [execOp, x1]; simp [go_sem]) ⟨_, rfl, rfl, Ext.refl _⟩
      · refine duty_free rfl fun a w' hE hF hA => ?_
        have x1 := hA.pick 7 22 (.pointer (some ⟨b2, 0, none⟩)) rfl rfl ⟨⟨7, .data⟩, by simp, rfl, rfl⟩ (fun u h => h)
        exact wp_value (ex_cell rfl _ _ x1 ((hE.cell (World.block_lt_of_cell? _ _ HC2.out)).trans HC2.out) rfl Tryz.underlying50) ⟨_, rfl, rfl, Ext.refl _⟩
      · refine duty_free rfl fun a w' hE hF hA => ?_
        have x1 := hA.pick 8 23 (.slice a2 M2.length c2) rfl rfl ⟨⟨8, .data⟩, by simp, rfl, rfl⟩ (fun u h => h)
        exact wp_value (w' := w') (v := .int .i64 M2.length) (by simp only [execOp, resolve, invoke, builtin, Sem.run_bind, Sem.run_pure, Result.andThen_ok, List.map_toArray, List.map_cons, List.map_nil, x1]; simp [go_sem]) ⟨_, rfl, rfl, Ext.refl _⟩
      · refine duty_free rfl fun a w' hE hF hA => ?_
        have x1 := hA.pick 4 19 (.int .i64 M1.length) rfl rfl ⟨⟨4, .data⟩, by simp, rfl, rfl⟩ (fun u h => h)
        have x2 := hA.pick 9 24 (.int .i64 M2.length) rfl rfl ⟨⟨9, .data⟩, by simp, rfl, rfl⟩ (fun u h => h)
        exact wp_value (w' := w') (v := .bool false) (by simp only [execOp, x1, x2]; simp [go_sem, f1]) ⟨_, rfl, rfl, Ext.refl _⟩
    case stay => exact trivial
    case rest =>
      intro W5 hE5
      have HE5 := Lib.hid hE5
      clear hE5
      simp only [forS]
      simp only [filled, List.zip_cons_cons, List.zip_nil_left, List.foldl_cons, List.foldl_nil, Act.put, List.setIfInBounds_toArray, List.set_cons_succ, List.set_cons_zero, Exit.inBlock, Exit.then]
      rename_i hK
      refine hK _ _ ?_
      clear hK
      clear f1
      go_wp2
      go_loopw [5] (fun i wr => ∃ k : Nat, k ≤ M1.length ∧ i = .int .i64 k ∧ Hid (∀ (j : Nat) x y, j < k → (nds M1)[j]? = some x → (nds M2)[j]? = some y → x = y) ∧ Ext w wr) (fun i _ => M1.length - (intOf i).toNat)
      case atStart => exact ⟨0, Nat.zero_le _, rfl, fun j x y h => by omega, HE5.out⟩
      case round =>
        obtain ⟨k, hk, rfl, HG, hE⟩ := hrel
        have hcr1 : wr.cell? ⟨b1, 0, none⟩ = some (.slice a1 M1.length c1) := cellP hE HC1.out
        have hcr2 : wr.cell? ⟨b2, 0, none⟩ = some (.slice a2 M2.length c2) := cellP hE HC2.out
        by_cases hlt : k < M1.length
        · have hk1 : (nds M1)[k]? = some M1[k].2 := by unfold nds; rw [List.getElem?_map, List.getElem?_eq_getElem hlt]; rfl
          have hlt2' : k < M2.length := by omega
          have hk2 : (nds M2)[k]? = some M2[k].2 := by unfold nds; rw [List.getElem?_map, List.getElem?_eq_getElem hlt2']; rfl
          obtain ⟨bl1, o1, da, dc, aa, ac, ea1, hSb1, hcc1, hD1, hA1, _⟩ := HR1.out.row hk1
          obtain ⟨bl2, o2, db, dd, ab, ad, ea2, hSb2, hcc2, hD2, hA2, _⟩ := HR2.out.row hk2
          subst ea1 ea2
          have hf1 := (right_fit (HM1.out.right M1[k] (List.getElem_mem hlt))).1
          have hf2 := (right_fit (HM2.out.right M2[k] (List.getElem_mem hlt2'))).1
          have hnext : M1[k].2 = M2[k].2 → ∀ (j : Nat) x y, j < k + 1 → (nds M1)[j]? = some x → (nds M2)[j]? = some y → x = y := fun e j x y hj hx hy => by
            by_cases ej : j = k
            · subst ej
              rw [hk1] at hx
              rw [hk2] at hy
              rw [← Option.some.inj hx, ← Option.some.inj hy]; exact e
            · exact HG.out j x y (by omega) hx hy
          have hnot : M1[k].2 ≠ M2[k].2 → sameM M1 M2 = false := fun h => sameM_not fun e => h (by
            have : (nds M1)[k]? = (nds M2)[k]? := by rw [e]
            rw [hk1, hk2] at this
            exact Option.some.inj this)
          generalize M1[k].2 = x at *
          generalize M2[k].2 = y at *
          have hw1 : ∀ j u, (ndC x (.slice da x.data.length dc) (.slice aa x.acl.length ac))[j]? = some u → wr.cell? ((⟨bl1, o1 + k * 17, none⟩ : Addr).add j) = some u := fun j u hj => by
            rw [addr_add]; exact cellP hE (hcc1 j u hj)
          have hw2 : ∀ j u, (ndC y (.slice db y.data.length dd) (.slice ab y.acl.length ad))[j]? = some u → wr.cell? ((⟨bl2, o2 + k * 17, none⟩ : Addr).add j) = some u := fun j u hj => by
            rw [addr_add]; exact cellP hE (hcc2 j u hj)
          have CS := Lib.hid fun W (h : Ext wr W) => rsame_any x y da aa db ab dc ac dd ad W hf1 hf2 (((hD1.cells fun b hb => (HS1.out b hb).1).ext hE).ext h) (((hA1.cells fun b hb => (HS1.out b hb).1).ext hE).ext h) (((hD2.cells fun b hb => (HS2.out b hb).1).ext hE).ext h) (((hA2.cells fun b hb => (HS2.out b hb).1).ext hE).ext h)
          have HX := Lib.hid hw1
          have HY := Lib.hid hw2
          have HN := Lib.hid hnext
          have HNO := Lib.hid hnot
          have HE := Lib.hid hE
          have hlt2 : (k : Int) < M1.length := by omega
          have hk0 : (0 : Int) ≤ k := by omega
          rw [← hlen] at hcr2
          have HAC1 := Lib.hid hcr1
          have HAC2 := Lib.hid hcr2
          clear hw1 hw2 hnext hnot hE hcc1 hcc2 hD1 hA1 hD2 hA2 hf1 hf2 hk1 hk2 hSb1 hSb2
          have hcr1 := HAC1.out
          clear HC1 HC2
          go_wp2
          refine wp_region_P (by kernel_rfl) (region_sp 51 [.val (.pointer (some ⟨b1, 0, none⟩)), .val (.pointer (some ⟨b1, 0, none⟩)), .val (.pointer (some ⟨b1, 0, none⟩)), .val (.slice (some ⟨bl1, o1, none⟩) M1.length c1), .val (.int .i64 k), .val (.pointer (some ⟨bl1, o1 + k * 17, none⟩)), .val (.agg (ndC x (.slice da x.data.length dc) (.slice aa x.acl.length ac))), .val (.pointer (some ⟨b2, 0, none⟩)), .val (.pointer (some ⟨b2, 0, none⟩)), .val (.pointer (some ⟨b2, 0, none⟩)), .val (.slice (some ⟨bl2, o2, none⟩) M1.length c2), .val (.int .i64 k), .val (.pointer (some ⟨bl2, o2 + k * 17, none⟩)), .val (.agg (ndC y (.slice db y.data.length dd) (.slice ab y.acl.length ad))), .val (.bool (sameN x y)), .val (.bool (!sameN x y))] ?stay rfl (by decide) rfl ?duties ?rest)
          case duties =>
            refine ⟨?_, ?_, ?_, ?_, ?_, ?_, ?_, ?_, ?_, ?_, ?_, ?_, ?_, ?_, ?_, ?_, trivial⟩
            · refine duty_free rfl fun a w' hE hF hA => ?_
              have x1 := hF.slot 0 _ (by decide) rfl
              exact wp_value (w' := w') (ex_move rfl) ⟨_, rfl, x1, Ext.refl _⟩
            · refine duty_free rfl fun a w' hE hF hA => ?_
              have x1 := hA.pick 0 35 (.pointer (some ⟨b1, 0, none⟩)) rfl rfl ⟨⟨0, .data⟩, by simp, rfl, rfl⟩ (fun u h => h)
              exact wp_value (ex_nilCheck rfl _ x1) ⟨_, rfl, rfl, Ext.refl _⟩
            · refine duty_free rfl fun a w' hE hF hA => ?_
              have x1 := hA.pick 1 36 (.pointer (some ⟨b1, 0, none⟩)) rfl rfl ⟨⟨1, .data⟩, by simp, rfl, rfl⟩ (fun u h => h)
              exact wp_value (w' := w') (v := .pointer (some ⟨b1, 0, none⟩)) (by simp only [execOp, x1]; simp [go_sem]) ⟨_, rfl, rfl, Ext.refl _⟩
            · refine duty_free rfl fun a w' hE hF hA => ?_
              have x1 := hA.pick 2 37 (.pointer (some ⟨b1, 0, none⟩)) rfl rfl ⟨⟨2, .data⟩, by simp, rfl, rfl⟩ (fun u h => h)
              exact wp_value (ex_cell rfl _ _ x1 ((hE.cell (World.block_lt_of_cell? _ _ HAC1.out)).trans HAC1.out) rfl Tryz.underlying50) ⟨_, rfl, rfl, Ext.refl _⟩
            · refine duty_free rfl fun a w' hE hF hA => ?_
              have x1 := hF.slot 5 _ (by decide) rfl
              exact wp_value (w' := w') (ex_move rfl) ⟨_, rfl, x1, Ext.refl _⟩
            · refine duty_free rfl fun a w' hE hF hA => ?_
              have x1 := hA.pick 3 38 (.slice (some ⟨bl1, o1, none⟩) M1.length c1) rfl rfl ⟨⟨3, .data⟩, by simp, rfl, rfl⟩ (fun u h => h)
              have x2 := hA.pick 4 39 (.int .i64 k) rfl rfl ⟨⟨4, .data⟩, by simp, rfl, rfl⟩ (fun u h => h)
              exact wp_value (w' := w') (v := .pointer (some ⟨bl1, o1 + k * 17, none⟩)) (by simp only [execOp, x1, x2]; simp [go_sem, hlt, hlt2, hk0]) ⟨_, rfl, rfl, Ext.refl _⟩
            · refine duty_free rfl fun a w' hE hF hA => ?_
              have x1 := hA.pick 5 40 (.pointer (some ⟨bl1, o1 + k * 17, none⟩)) rfl rfl ⟨⟨5, .data⟩, by simp, rfl, rfl⟩ (fun u h => h)
              exact wp_value (ex_load_at rfl _ x1 (ndC x (.slice da x.data.length dc) (.slice aa x.acl.length ac)) (fun j u hj => ((hE.cell (World.block_lt_of_cell? _ _ (HX.out j u hj))).trans (HX.out j u hj))) Tryz.underlying44 rfl sizeNd) ⟨_, rfl, rfl, Ext.refl _⟩
            · refine duty_free rfl fun a w' hE hF hA => ?_
              have x1 := hF.slot 1 _ (by decide) rfl
              exact wp_value (w' := w') (ex_move rfl) ⟨_, rfl, x1, Ext.refl _⟩
            · refine duty_free rfl fun a w' hE hF hA => ?_
              have x1 := hA.pick 7 42 (.pointer (some ⟨b2, 0, none⟩)) rfl rfl ⟨⟨7, .data⟩, by simp, rfl, rfl⟩ (fun u h => h)
              exact wp_value (ex_nilCheck rfl _ x1) ⟨_, rfl, rfl, Ext.refl _⟩
            · refine duty_free rfl fun a w' hE hF hA => ?_
              have x1 := hA.pick 8 43 (.pointer (some ⟨b2, 0, none⟩)) rfl rfl ⟨⟨8, .data⟩, by simp, rfl, rfl⟩ (fun u h => h)
              exact wp_value (w' := w') (v := .pointer (some ⟨b2, 0, none⟩)) (by simp only [execOp, x1]; simp [go_sem]) ⟨_, rfl, rfl, Ext.refl _⟩
            · refine duty_free rfl fun a w' hE hF hA => ?_
              have x1 := hA.pick 9 44 (.pointer (some ⟨b2, 0, none⟩)) rfl rfl ⟨⟨9, .data⟩, by simp, rfl, rfl⟩ (fun u h => h)
              exact wp_value (ex_cell rfl _ _ x1 ((hE.cell (World.block_lt_of_cell? _ _ HAC2.out)).trans HAC2.out) rfl Tryz.underlying50) ⟨_, rfl, rfl, Ext.refl _⟩
            · refine duty_free rfl fun a w' hE hF hA => ?_
              have x1 := hF.slot 5 _ (by decide) rfl
              exact wp_value (w' := w') (ex_move rfl) ⟨_, rfl, x1, Ext.refl _⟩
            · refine duty_free rfl fun a w' hE hF hA => ?_
              have x1 := hA.pick 10 45 (.slice (some ⟨bl2, o2, none⟩) M1.length c2) rfl rfl ⟨⟨10, .data⟩, by simp, rfl, rfl⟩ (fun u h => h)
              have x2 := hA.pick 11 46 (.int .i64 k) rfl rfl ⟨⟨11, .data⟩, by simp, rfl, rfl⟩ (fun u h => h)
              exact wp_value (w' := w') (v := .pointer (some ⟨bl2, o2 + k * 17, none⟩)) (by simp only [execOp, x1, x2]; simp [go_sem, hlt, hlt2, hk0]) ⟨_, rfl, rfl, Ext.refl _⟩
            · refine duty_free rfl fun a w' hE hF hA => ?_
              have x1 := hA.pick 12 47 (.pointer (some ⟨bl2, o2 + k * 17, none⟩)) rfl rfl ⟨⟨12, .data⟩, by simp, rfl, rfl⟩ (fun u h => h)
              exact wp_value (ex_load_at rfl _ x1 (ndC y (.slice db y.data.length dd) (.slice ab y.acl.length ad)) (fun j u hj => ((hE.cell (World.block_lt_of_cell? _ _ (HY.out j u hj))).trans (HY.out j u hj))) Tryz.underlying44 rfl sizeNd) ⟨_, rfl, rfl, Ext.refl _⟩
            · refine duty_free rfl fun a w' hE hF hA => ?_
              have x1 := hA.pick 6 41 (.agg (ndC x (.slice da x.data.length dc) (.slice aa x.acl.length ac))) rfl rfl ⟨⟨6, .data⟩, by simp, rfl, rfl⟩ (fun u h => h)
              have x2 := hA.pick 13 48 (.agg (ndC y (.slice db y.data.length dd) (.slice ab y.acl.length ad))) rfl rfl ⟨⟨13, .data⟩, by simp, rfl, rfl⟩ (fun u h => h)
              refine wp_enter (ex_call rfl (enters_f Tryz.func55 (by kernel_rfl) rfl)) (by simp only [List.map_toArray, List.map_cons, List.map_nil, x1, x2]; exact CS.out w' hE) ?_
              rintro e w4 ⟨rfl, hb⟩
              exact ⟨_, rfl, _, rfl, rfl, hb⟩
            · refine duty_free rfl fun a w' hE hF hA => ?_
              have x1 := hA.pick 14 49 (.bool (sameN x y)) rfl rfl ⟨⟨14, .data⟩, by simp, rfl, rfl⟩ (fun u h => h)
              exact wp_value (w' := w') (v := .bool (!sameN x y)) (by simp only [execOp, x1]; simp [go_sem]) ⟨_, rfl, rfl, Ext.refl _⟩
          case stay => exact trivial
          case rest =>
            intro W6 hE6
            have HE6 := Lib.hid (HE.out.trans hE6)
            clear hE6 CS HX HY hcr1
            simp only [forS]
            simp only [filled, List.zip_cons_cons, List.zip_nil_left, List.foldl_cons, List.foldl_nil, Act.put, List.setIfInBounds_toArray, List.set_cons_succ, List.set_cons_zero, Exit.inBlock, Exit.then]
            rename_i hK
            refine hK _ _ ?_
            clear hK
            by_cases hxy : x = y
            · have hsn : sameN x y = true := by rw [hxy]; exact sameN_self _
              rw [hsn]
              have HN2 := Lib.hid (HN.out hxy)
              clear hsn hxy HN HNO
              go_wp2
              go_roundw
              case rel => exact ⟨k + 1, by omega, by go_num, HN2.out, HE6.out⟩
              case measure => simp [intOf]; omega
            · have hsn : sameN x y = false := sameN_not hxy
              rw [hsn]
              have HF := Lib.hid (HNO.out hxy)
              clear hsn hxy HN HNO
              go_wp2
              go_ret
              exact ⟨by rw [HF.out]; rfl, HE6.out⟩
        · obtain rfl : k = M1.length := by omega
          have HF := Lib.hid (sameM_nds HM1.out HM2.out HLEN.out fun j x y hx hy => HG.out j x y (by have := (List.getElem?_eq_some_iff.1 hx).1; rw [nds_length] at this; exact this) hx hy)
          have HE := Lib.hid hE
          clear hE hcr2
          go_wp2
          go_ret
          exact ⟨by rw [HF.out]; rfl, HE.out⟩
end Go.Proofs.YthinpbdbhijbgaaGreatDoor
namespace Go.Proofs.YthinpbdbhijbgaaGreatDoor
open Go.RowKit
set_option maxHeartbeats 4000000
set_option maxRecDepth 100000

/-- Does a node age, and how long may it live? -/
def lifeB (n : Nd) : Bool := decide (-72057594037927936 < n.owner) && decide (n.owner ≤ -72056494526300161)
def lifeV (n : Nd) : Int := if lifeB n = true then n.owner + 72057594037927936 else 0
theorem lifeB_yes {n : Nd} (h1 : -72057594037927936 < n.owner) (h2 : n.owner ≤ -72056494526300161) : lifeB n = true := by unfold lifeB; simp [h1, h2]
theorem lifeB_no {n : Nd} (h : ¬ (-72057594037927936 < n.owner ∧ n.owner ≤ -72056494526300161)) : lifeB n = false := by unfold lifeB; simp only [Bool.and_eq_false_iff, decide_eq_false_iff_not]; omega
def LifeOut (n : Nd) (w : World) (e : Ending) (w' : World) : Prop := e = .returned (.tuple #[.int .i64 (lifeV n), .bool (lifeB n)]) ∧ Ext w w'

theorem slife_any (n : Nd) (d a : Value) (w : World) (hi : -9223372036854775808 ≤ n.owner ∧ n.owner ≤ 9223372036854775807) : Calls Tryz.prog 95 #[.agg (ndC n d a)] w (LifeOut n w) := by
  have hx : Box (w.alloc (.cells (ndC n d a) 44)) w.heap.size (ndC n d a) := fun j => cell_of_row _ _ _ _ _ _ (heap_alloc_new w _)
  have hE : Ext w (w.alloc (.cells (ndC n d a) 44)) := Ext.alloc _ _
  have HE := Lib.hid hE
  unfold ndC at hx HE ⊢
  unfold Box at hx
  have hown : (w.alloc (.cells #[.string n.path, d, a, .int .i64 n.owner, .int .i64 n.czxid, .int .i64 n.mzxid, .int .i64 n.pzxid, .int .i64 n.azxid, .int .i64 n.qzxid, .int .i64 n.ctime, .int .i64 n.mtime, .int .i32 n.version, .int .i32 n.creates, .int .i32 n.aversion, .bool n.has, .int .i64 n.count, .int .i64 n.bytes] 44)).cell? ⟨w.heap.size, 3, none⟩ = some (.int .i64 n.owner) := hx 3
  clear hx hE
  have HV := Lib.hid (show lifeV n = if lifeB n = true then n.owner + 72057594037927936 else 0 from rfl)
  have HB := Lib.hid (show lifeB n = (decide (-72057594037927936 < n.owner) && decide (n.owner ≤ -72056494526300161)) from rfl)
  unfold LifeOut
  by_cases h0 : 0 ≤ n.owner
  · have f0 : decide (0 ≤ n.owner) = true := by simpa using h0
    go_enter Tryz.func95, Tryz.ntmps95
    go_wp2
    go_ret2
    have hb := lifeB_no (n := n) (by omega)
    exact ⟨by rw [HV.out, hb]; rfl, HE.out⟩
  · have f0 : decide (0 ≤ n.owner) = false := by simpa using h0
    obtain ⟨L, hL⟩ : ∃ L, L = n.owner + 72057594037927936 := ⟨_, rfl⟩
    have hw : IntKind.i64.wrap (n.owner + 72057594037927936) = L := by rw [IntKind.wrap_i64]; omega
    have hw2 : wrap64 (n.owner + 72057594037927936) = L := by unfold wrap64; omega
    have hw3 : IntKind.i64.wrap (n.owner - (-72057594037927936)) = L := by rw [IntKind.wrap_i64]; omega
    have hw4 : wrap64 (n.owner - (-72057594037927936)) = L := by unfold wrap64; omega
    by_cases h1 : L < 1
    · have HL := Lib.hid hL
      clear hL
      go_enter Tryz.func95, Tryz.ntmps95
      go_wp2
      go_ret2
      have hL := HL.out
      have hb := lifeB_no (n := n) (by omega)
      exact ⟨by rw [HV.out, hb]; rfl, HE.out⟩
    · by_cases h2 : 1099511627775 < L
      · have HL := Lib.hid hL
        clear hL
        go_enter Tryz.func95, Tryz.ntmps95
        go_wp2
        go_ret2
        have hL := HL.out
        have hb := lifeB_no (n := n) (by omega)
        exact ⟨by rw [HV.out, hb]; rfl, HE.out⟩
      · have HL := Lib.hid hL
        have hb := lifeB_yes (n := n) (by omega) (by omega)
        have HBB := Lib.hid hb
        clear hL hb
        go_enter Tryz.func95, Tryz.ntmps95
        go_wp2
        go_ret2
        exact ⟨by rw [HV.out, HBB.out, HL.out]; rfl, HE.out⟩

theorem rlife_any (n : Nd) (d a : Value) (w : World) (hi : -9223372036854775808 ≤ n.owner ∧ n.owner ≤ 9223372036854775807) : Calls Tryz.prog 96 #[.agg (ndC n d a)] w (LifeOut n w) := by
  have hx : Box (w.alloc (.cells (ndC n d a) 44)) w.heap.size (ndC n d a) := fun j => cell_of_row _ _ _ _ _ _ (heap_alloc_new w _)
  have hE : Ext w (w.alloc (.cells (ndC n d a) 44)) := Ext.alloc _ _
  have HE := Lib.hid hE
  unfold ndC at hx HE ⊢
  unfold Box at hx
  have hown : (w.alloc (.cells #[.string n.path, d, a, .int .i64 n.owner, .int .i64 n.czxid, .int .i64 n.mzxid, .int .i64 n.pzxid, .int .i64 n.azxid, .int .i64 n.qzxid, .int .i64 n.ctime, .int .i64 n.mtime, .int .i32 n.version, .int .i32 n.creates, .int .i32 n.aversion, .bool n.has, .int .i64 n.count, .int .i64 n.bytes] 44)).cell? ⟨w.heap.size, 3, none⟩ = some (.int .i64 n.owner) := hx 3
  clear hx hE
  have HV := Lib.hid (show lifeV n = if lifeB n = true then n.owner + 72057594037927936 else 0 from rfl)
  unfold LifeOut
  by_cases h0 : -72057594037927936 < n.owner
  · by_cases h1 : n.owner ≤ -72056494526300161
    · have hb := lifeB_yes h0 h1
      have HB := Lib.hid hb
      obtain ⟨L, hL⟩ : ∃ L, L = n.owner + 72057594037927936 := ⟨_, rfl⟩
      have hw : IntKind.i64.wrap (n.owner + 72057594037927936) = L := by rw [IntKind.wrap_i64]; omega
      have hw2 : wrap64 (n.owner + 72057594037927936) = L := by unfold wrap64; omega
      have hw3 : IntKind.i64.wrap (n.owner - (-72057594037927936)) = L := by rw [IntKind.wrap_i64]; omega
      have hw4 : wrap64 (n.owner - (-72057594037927936)) = L := by unfold wrap64; omega
      have HL := Lib.hid hL
      clear hb hL
      go_enter Tryz.func96, Tryz.ntmps96
      go_wp2
      go_ret2
      exact ⟨by rw [HV.out, HB.out, HL.out]; rfl, HE.out⟩
    · go_enter Tryz.func96, Tryz.ntmps96
      go_wp2
      go_ret2
      have hb := lifeB_no (n := n) (by omega)
      exact ⟨by rw [HV.out, hb]; rfl, HE.out⟩
  · go_enter Tryz.func96, Tryz.ntmps96
    go_wp2
    go_ret2
    have hb := lifeB_no (n := n) (by omega)
    exact ⟨by rw [HV.out, hb]; rfl, HE.out⟩
end Go.Proofs.YthinpbdbhijbgaaGreatDoor
namespace Go.Proofs.YthinpbdbhijbgaaGreatDoor
open Go.RowKit Go.Sort
set_option maxHeartbeats 2000000
set_option maxRecDepth 100000

theorem wpList_append_s {ops : Array Oper} {rest : List Oper} {o : Oper} {a : Act} {Q : Exit → Act → World → Prop} {W5 : World} (hgd : o.guard = none) (s x : Operand)
    (ho : o.op = .call { callee := .builtin .append, args := #[s, x], argTypes := #[56, 56] })
    (base n : Nat) (xs : List Value) (ov : Value) (hown : W5.ownsRow base 9 1 ov n xs) (hb : base ≤ W5.heap.size) (t : ByteArray) (hl : (n + 1) * 16 ≤ 140737488355328)
    (hs : a.eval s = ov) (hx : a.eval x = .slice (some ⟨W5.heap.size, 0, none⟩) 1 1)
    (hK : ∀ v' W6, W6.ownsRow base 9 1 v' (n + 1) (xs ++ [.string t]) → (∀ w0, Ext w0 W5 → w0.heap.size ≤ base → Ext w0 W6) → wpList Tryz.prog ops Q rest (a.put o.dst v') W6) : wpList Tryz.prog ops Q (o :: rest) a (W5.alloc (.cells #[.string t] 9)) := by
  have hrow8 := hown.alloc (.cells #[.string t] 9)
  have hs1 : Cells (W5.alloc (.cells #[.string t] 9)).heap.size (W5.alloc (.cells #[.string t] 9)) (some ⟨W5.heap.size, 0, none⟩) [.string t] := fun j u hj => by
    refine ⟨_, 0, rfl, by simp, ?_⟩
    rw [Nat.zero_add, cell_of_row _ _ _ _ _ _ (heap_alloc_new W5 _)]
    simpa using hj
  have hsrc : Src Tryz.prog 1 56 (.slice (some ⟨W5.heap.size, 0, none⟩) 1 1) 1 [.string t] (W5.alloc (.cells #[.string t] 9)) := hs1.src Tryz.underlying56 1 1 (by simp) (fun u hu => by simp at hu; subst hu; rfl)
  obtain ⟨i0, hi, hz0, hz1', hz2'⟩ := strInfo
  refine wpList_append_src _ hgd s x 56 56 ho base 9 i0 (.string ⟨#[]⟩) 1 16 Tryz.underlying56 hi hz0 hz1' hz2' rfl (by decide) ov n xs hs hrow8 _ 1 _ hx hsrc (by unfold maxLen; omega) hl (by simp; omega) ?_
  intro v' w9 hown9 hg9 _ _
  refine hK v' w9 hown9 fun w0 hE0 hb0 => ?_
  have hE8 : Ext w0 (W5.alloc (.cells #[.string t] 9)) := hE0.trans (Ext.alloc _ _)
  exact hE8.trans' ⟨hg9.os, hg9.tape, hg9.output, hg9.size, fun i hi => hg9.block i (Nat.lt_of_lt_of_le hi hE8.size) (fun e => by
    have := (hown.lt i e.symm).1
    omega)⟩
end Go.Proofs.YthinpbdbhijbgaaGreatDoor
