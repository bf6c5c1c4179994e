/- The walk of stat.Same at any two nodes. The walks of maps.EqualFunc at two maps of the same nodes, and of tree.Same. The walk of a quota book's Turn. The walk of a quota book's Exceeds. The contracts of a nil quota book, and of the nil tree's. -/
import Derived.Test.YtamolbegmkngdaaGreatDoorJQuotaTurns18
import Derived.Test.YtamolbegmkngdaaGreatDoorJQuotaTurns19
import Derived.Test.YtamolbegmkngdaaGreatDoorJQuotaTurns20
import Derived.Test.YtamolbegmkngdaaGreatDoorJQuotaTurns21
import Derived.Test.YtamolbegmkngdaaGreatDoorJQuotaTurns17
import Derived.Test.YtamolbegmkngdaaGreatDoorJQuotaTurns9
import Derived.Test.YtamolbegmkngdaaGreatDoorJQuotaTurns6
import Derived.Test.YtamolbegmkngdaaGreatDoorJQuotaTurns8
import Derived.Test.YtamolbegmkngdaaGreatDoorJQuotaTurns10
import Derived.Test.YtamolbegmkngdaaGreatDoorJQuotaTurns15
import Derived.Test.YtamolbegmkngdaaGreatDoorJQuotaTurns14
namespace Go.Proofs.YtamolbegmkngdaaGreatDoor
open Go.RowKit

theorem ssame_any (x y : Nd) (da aa db ab : Option Addr) (dc ac dd ad : Nat) (w : World) (hf : Fit x) (hf' : Fit y) (hD : Cells w.heap.size w da (x.data.map u8v)) (hA : Cells w.heap.size w aa (acCs x.acl)) (hD' : Cells w.heap.size w db (y.data.map u8v)) (hA' : Cells w.heap.size w ab (acCs y.acl)) :
    Calls Tryz.prog 116 #[.agg (ndC x (.slice da x.data.length dc) (.slice aa x.acl.length ac)), .agg (ndC y (.slice db y.data.length dd) (.slice ab y.acl.length ad))] w fun e w' => e = .returned (.bool (sameN x y)) ∧ Below w.heap.size w w' := by
  by_cases hxy : x = y
  · subst hxy
    rw [sameN_self]
    exact ssame_self x da aa db ab dc ac dd ad w hf hD hA hD' hA'
  rw [sameN_not hxy]
  by_cases q0 : x.data = y.data ∧ x.acl = y.acl ∧ x.path = y.path ∧ x.owner = y.owner
  rotate_left
  · exact ssame_p1 x y da aa db ab dc ac dd ad w hf hf' hD hA hD' hA' q0
  obtain ⟨h_data, h_acl, h_path, h_owner⟩ := q0
  by_cases q1 : x.czxid = y.czxid ∧ x.mzxid = y.mzxid ∧ x.pzxid = y.pzxid ∧ x.azxid = y.azxid
  rotate_left
  · exact ssame_p2 x y da aa db ab dc ac dd ad w hf hf' hD hA hD' hA' h_data h_acl h_path h_owner q1
  obtain ⟨h_czxid, h_mzxid, h_pzxid, h_azxid⟩ := q1
  by_cases q2 : x.qzxid = y.qzxid ∧ x.ctime = y.ctime ∧ x.mtime = y.mtime ∧ x.version = y.version
  rotate_left
  · exact ssame_p3 x y da aa db ab dc ac dd ad w hf hf' hD hA hD' hA' h_data h_acl h_path h_owner h_czxid h_mzxid h_pzxid h_azxid q2
  obtain ⟨h_qzxid, h_ctime, h_mtime, h_version⟩ := q2
  refine ssame_p4 x y da aa db ab dc ac dd ad w hf hf' hD hA hD' hA' h_data h_acl h_path h_owner h_czxid h_mzxid h_pzxid h_azxid h_qzxid h_ctime h_mtime h_version fun q => hxy ?_
  obtain ⟨h_creates, h_aversion, h_has, h_count, h_bytes⟩ := q
  cases x; cases y
  simp_all
end Go.Proofs.YtamolbegmkngdaaGreatDoor
namespace Go.Proofs.YtamolbegmkngdaaGreatDoor
open Go.RowKit
set_option maxHeartbeats 4000000
set_option maxRecDepth 100000

theorem wpList_load_row_g {P : Program} {ops : Array Oper} {rest : List Oper} {o : Oper} {a : Act} {Q : Exit → Act → World → Prop} {w : World} (hw : Region.wanted o (yielded ops a.tmps) = true) (ty : TypeId) (x : Operand) (ho : o.op = .load ty x) (g : Nat) (hx : a.eval x = .pointer (some ⟨g, 0, none⟩)) (t : TypeId) (cs : Array Value) (fr : Nat × Nat) (d : TypeDesc) (hg : w.heap[g]? = some (.cells cs t fr))
    (hu : P.underlying ty = some d) (hd : (match d with | .struct _ | .array _ _ => true | _ => false) = true) (hi : (P.info? ty).map (·.size) = some cs.size)
    (hK : wpList P ops Q rest (a.put o.dst (.agg cs)) w) : wpList P ops Q (o :: rest) a w := by
  rw [wpList, if_pos hw]
  exact .inl (wp_value (ex_load_row ho g hx t cs fr d hg hu hd hi) hK)

theorem grown_ext {a b : World} (h : Ext a b) (row : Option Nat) : a.grownBy b row := ⟨h.os, h.tape, h.output, h.size, fun k hk _ => h.block k hk⟩

theorem eqf_self (S1 S2 : Nat → Prop) (w : World) (bn1 bn2 : Nat) (M : List (Key × Nd)) (N1 N2 : Nat) (h1 : NodesAt S1 w bn1 M N1) (h2 : NodesAt S2 w bn2 M N2) (hS1 : ∀ k, S1 k → k < w.heap.size) (hS2 : ∀ k, S2 k → k < w.heap.size) :
    Calls Tryz.prog 115 #[.map (some bn1), .map (some bn2), .func (.func 116) #[] #[]] w fun e w' => e = .returned (.bool true) ∧ Ext w w' := by
  have hok := h1.ok
  obtain ⟨m1, hm1, hr1⟩ := h1.ex
  have hlt2 : bn2 < w.heap.size := by obtain ⟨m2, hm2, _⟩ := h2.ex; exact hm2.lt
  have hlen1 := fun ty => hm1.len (e := 47) Tryz.underlying115 ty
  have hlen2 : ∀ ty, (Builtin.len_ #[115] ty #[.map (some bn2)]).run Tryz.prog w = .ok (.int .i64 M.length) w := fun ty => by
    obtain ⟨m2, hm2, hr2⟩ := h2.ex
    rw [hr2.length]
    exact hm2.len (e := 47) Tryz.underlying115 ty
  rw [← hr1.length] at hlen1
  have HR1 := Lib.hid hr1
  have H2 := Lib.hid h2
  have HOK := Lib.hid hok
  have HM1 := hm1
  clear h1 h2 hm1 hr1 hok
  go_enter Tryz.func115, Tryz.ntmps115
  go_wp2_with (at_range; refine wpList_range_own _ rfl _ 115 rfl 9 47 (Maps.string_keyed strT) Tryz.underlying115 Rv bn1 _ _ rfl HM1 ?_; intro w0 hrg0 hg0 hs0)
  go_frame
  have hE0 : Ext w w0 := ⟨hg0.os, hg0.tape, hg0.output, hg0.size, fun k hk => hg0.block k hk (by simp)⟩
  have hb1 := HM1.lt
  have HRG0 := Lib.hid hrg0
  have HE0 := Lib.hid hE0
  clear HM1 hlen1 hlen2 hrg0 hg0 hs0 hE0
  go_loopw [6] (fun r wr => ∃ (left : Lit → Bool) (cnt : Nat), r = .bool false ∧ wr.ranges Tryz.prog 9 Rv bn1 w.heap.size m1.length (kvD m1) left cnt ∧ Ext w wr) (fun _ wr => wr.rangeLeft bn1 w.heap.size)
  case atStart => exact ⟨_, _, rfl, HRG0.out, HE0.out⟩
  case round =>
    obtain ⟨left, cnt, rfl, hrg, hE⟩ := hrel
    have HE := Lib.hid hE
    clear hE
    go_wp2_with (at_next; refine wpList_next_left _ rfl _ rfl 9 strT bn1 w.heap.size _ m1 left cnt rfl hrg ?_ ?_)
    · intro _
      clear hrg
      go_wp2
      go_ret
      exact ⟨rfl, HE.out⟩
    · intro s v w6 cnt6 hs _ hmg hrg6 hlt6 hg6 hsz6 hen
      obtain ⟨y, hy, hv⟩ : ∃ y, mget M s.data.toList = some y ∧ NdS S1 w v y := by
        rcases HR1.out.get s.data.toList with ⟨_, h2⟩ | ⟨y, u, h1, h2, h3⟩
        · rw [h2] at hmg; cases hmg
        · rw [h2] at hmg
          cases hmg
          exact ⟨y, h1, h3⟩
      have hEw6 : Ext w w6 := HE.out.trans' ⟨hg6.os, hg6.tape, hg6.output, hg6.size, fun i hi => hg6.block i (Nat.lt_of_lt_of_le hi HE.out.size) (fun e => by
        have := Option.some.inj e
        omega)⟩
      have hfit := HOK.out.fit s.data.toList
      rw [hy] at hfit
      simp only [Option.getD_some] at hfit
      obtain ⟨da, dc, aa, ac, rfl, hD, hA⟩ := hv
      obtain ⟨W7, hW7⟩ : ∃ W7, W7 = w6.alloc (.cells (ndC y (.slice da y.data.length dc) (.slice aa y.acl.length ac)) 47) := ⟨_, rfl⟩
      have hE7 : Ext w6 W7 := by rw [hW7]; exact Ext.alloc _ _
      have hz7 : W7.heap.size = w6.heap.size + 1 := by rw [hW7]; simp
      have hn7 : W7.heap[w6.heap.size]? = some (.cells (ndC y (.slice da y.data.length dc) (.slice aa y.acl.length ac)) 47 (0, 0)) := by rw [hW7]; exact heap_alloc_new _ _
      have hEw7 := hEw6.trans hE7
      have h27 : NodesAt S2 W7 bn2 M N2 := H2.out.keep (hEw7.block bn2 hlt2) (fun _ h => h) (fun b o u hb hu => (hEw7.cell (p := ⟨b, o, none⟩) (hS2 b hb)).trans hu) (Nat.le_refl _)
      obtain ⟨v2, hv2, hq, _⟩ := h27.look' s hs
      rw [hy] at hv2 hq
      simp only [Option.getD_some, Option.isSome_some] at hv2 hq
      obtain ⟨db, dd, ab, ad, rfl, hD2, hA2⟩ := hv2
      obtain ⟨W8, hW8⟩ : ∃ W8, W8 = W7.alloc (.cells (ndC y (.slice db y.data.length dd) (.slice ab y.acl.length ad)) 47) := ⟨_, rfl⟩
      have hE8 : Ext W7 W8 := by rw [hW8]; exact Ext.alloc _ _
      have hz8 : W8.heap.size = W7.heap.size + 1 := by rw [hW8]; simp
      have hn8 : W8.heap[W7.heap.size]? = some (.cells (ndC y (.slice db y.data.length dd) (.slice ab y.acl.length ad)) 47 (0, 0)) := by rw [hW8]; exact heap_alloc_new _ _
      have hn78 := (hE8.block w6.heap.size (by omega)).trans hn7
      have hE68 := hE7.trans hE8
      have CS := Lib.hid (ssame_self y da aa db ab dc ac dd ad W8 hfit (((hD.cells hS1).ext (hEw7.trans hE8))) ((hA.cells hS1).ext (hEw7.trans hE8)) ((hD2.cells fun b hb => Nat.lt_of_lt_of_le (hS2 b hb) hEw7.size).ext hE8) ((hA2.cells fun b hb => Nat.lt_of_lt_of_le (hS2 b hb) hEw7.size).ext hE8))
      have HRG8 := Lib.hid (hrg6.kept (grown_ext hE68 none) (by simp) (by simp))
      have HRG := Lib.hid hrg
      have HSET7 := Lib.hid ((setRow_alloc w6 zeroNd (ndC y (.slice da y.data.length dc) (.slice aa y.acl.length ac)) 47).trans hW7.symm)
      have HNew7 := Lib.hid (heap_alloc_new w6 (.cells zeroNd 47))
      have HSET8 := Lib.hid ((setRow_alloc W7 zeroNd (ndC y (.slice db y.data.length dd) (.slice ab y.acl.length ad)) 47).trans hW8.symm)
      have HNew8 := Lib.hid (heap_alloc_new W7 (.cells zeroNd 47))
      have HN78 := Lib.hid hn78
      have HN8 := Lib.hid hn8
      have HEW8 := Lib.hid (hEw7.trans hE8)
      have HLT := Lib.hid hlt6
      rw [hz7] at HSET8 HNew8 HN8
      unfold ndC at HSET7 HSET8 HN78 HN8 CS hq
      unfold zeroNd at HSET7 HNew7 HSET8 HNew8
      clear hrg hrg6 hg6 hsz6 hW7 hW8 hE7 hE8 hE68 hEw6 hEw7 hn7 hn8 hn78 h27 hD hA hD2 hA2 hmg hlt6 hfit hy
      unfold ndC at hen
      go_wp2_with (first | (refine wpList_store_row rfl 47 (.tmp 8) (.tmp 22) rfl w6.heap.size _ rfl rfl 47 _ HNew7.out sizeNd rfl (cells_node y da aa _ _ dc ac) ?_; rw [HSET7.out]) | (refine wpList_store_row rfl 47 (.tmp 9) (.tmp 27) rfl (w6.heap.size + 1) _ rfl rfl 47 _ HNew8.out sizeNd rfl (cells_node y db ab _ _ dd ad) ?_; rw [HSET8.out]) | (refine wpList_load_row_g rfl 47 (.tmp 8) rfl w6.heap.size rfl 47 _ (0, 0) _ HN78.out Tryz.underlying47 rfl sizeNd ?_) | (refine wpList_load_row_g rfl 47 (.tmp 9) rfl (w6.heap.size + 1) rfl 47 _ (0, 0) _ HN8.out Tryz.underlying47 rfl sizeNd ?_))
      refine CS.out.mono ?_
      rintro e w9 ⟨rfl, hE9⟩
      have hE9 : Ext W8 w9 := hE9
      have hrg9 := HRG8.out.kept (grown_ext hE9 none) (by simp) (by simp)
      have HREL := Lib.hid (show ∃ (left : Lit → Bool) (cnt : Nat), Value.bool false = .bool false ∧ w9.ranges Tryz.prog 9 Rv bn1 w.heap.size m1.length (kvD m1) left cnt ∧ Ext w w9 from ⟨_, _, rfl, hrg9, HEW8.out.trans hE9⟩)
      have HMS := Lib.hid (show w9.rangeLeft bn1 w.heap.size < wr.rangeLeft bn1 w.heap.size by rw [hrg9.left_eq, HRG.out.left_eq]; exact HLT.out)
      clear CS hE9 hrg9 HRG8 HRG HN78 HN8 HSET7 HSET8 HNew7 HNew8 hq hen
      go_wp2
      go_roundw
      case rel =>
        obtain ⟨l, c, _, h⟩ := HREL.out
        exact ⟨l, c, rfl, h⟩
      case measure => exact HMS.out

theorem tsame_self (S1 S2 : Nat → Prop) (w : World) (b1 b2 : Nat) (M : List (Key × Nd)) (N1 N2 : Nat) (h1 : TreeAt S1 w b1 M N1) (h2 : TreeAt S2 w b2 M N2) :
    Calls Tryz.prog 55 #[.pointer (some ⟨b1, 0, none⟩), .pointer (some ⟨b2, 0, none⟩)] w fun e w' => e = .returned (.bool true) ∧ Ext w w' := by
  have hB1 := h1.bound
  have hB2 := h2.bound
  obtain ⟨n1, k1, K1, hd1, hN1, _⟩ := h1
  obtain ⟨n2, k2, K2, hd2, hN2, _⟩ := h2
  have hx1 := TreeAt.box hd1
  have hx2 := TreeAt.box hd2
  have HC := Lib.hid fun (W : World) (hE : Ext w W) => eqf_self S1 S2 W n1 n2 M N1 N2 (hN1.keep (hE.block n1 (hd1.bound _ hd1.sn)) (fun _ h => h) (fun b o u hb hu => (hE.cell (p := ⟨b, o, none⟩) (hB1 b hb)).trans hu) (Nat.le_refl _)) (hN2.keep (hE.block n2 (hd2.bound _ hd2.sn)) (fun _ h => h) (fun b o u hb hu => (hE.cell (p := ⟨b, o, none⟩) (hB2 b hb)).trans hu) (Nat.le_refl _))
    (fun k hk => Nat.lt_of_lt_of_le (hB1 k hk) hE.size) (fun k hk => Nat.lt_of_lt_of_le (hB2 k hk) hE.size)
  unfold Box treeC at hx1 hx2
  clear hd1 hd2 hN1 hN2 hB1 hB2
  go_enter Tryz.func55, Tryz.ntmps55
  have hG0 : Ext w w.drew := Ext.drew _
  have HX1 := Lib.hid hx1
  have HX2 := Lib.hid hx2
  have hGx : ∀ (i : Nat) (d d' : Nat → Bool) (u v : World), Ext w u → Ext u v → (∀ k, k ≠ i → d' k = d k) → Ext w v := fun _ _ _ _ _ h k _ => h.trans k
  clear hx1 hx2
  go_wp2
  refine wp_region_P (by kernel_rfl) (region_state_vals 23 (fun _ W => Ext w W) hG0 [.pointer (some ⟨b1, 0, none⟩), .pointer (some ⟨b1, 0, none⟩), .pointer (some ⟨b1, 0, none⟩), .map (some n1), .pointer (some ⟨b2, 0, none⟩), .pointer (some ⟨b2, 0, none⟩), .pointer (some ⟨b2, 0, none⟩), .map (some n2), .bool true, .bool true] rfl (by decide) rfl ?duties ?rest)
  case duties =>
    refine ⟨?_, ?_, ?_, ?_, ?_, ?_, ?_, ?_, ?_, ?_, trivial⟩
    · refine dutyS_ext (hGx _) fun d a w' hG hF hA => ?_
      have x1 := hF.slot 0 _ (by decide) rfl
      exact wp_value (w' := w') (v := .pointer (some ⟨b1, 0, none⟩)) (by simp only [execOp, x1]; simp [go_sem]) ⟨_, rfl, rfl, Ext.refl _⟩
    · refine dutyS_ext (hGx _) fun d a w' hG hF hA => ?_
      have x1 := hA.val 0 14 rfl rfl ⟨⟨0, .data⟩, by simp, rfl, rfl⟩ rfl
      exact wp_value (ex_nilCheck rfl _ x1) ⟨_, rfl, rfl, Ext.refl _⟩
    · refine dutyS_ext (hGx _) fun d a w' hG hF hA => ?_
      have x1 := hA.val 1 15 rfl rfl ⟨⟨1, .data⟩, by simp, rfl, rfl⟩ rfl
      exact wp_value (w' := w') (v := .pointer (some ⟨b1, 0, none⟩)) (by simp only [execOp, x1]; simp [go_sem]) ⟨_, rfl, rfl, Ext.refl _⟩
    · refine dutyS_ext (hGx _) fun d a w' hG hF hA => ?_
      have x1 := hA.val 2 16 rfl rfl ⟨⟨2, .data⟩, by simp, rfl, rfl⟩ rfl
      have hc := HX1.out 0
      exact wp_value (ex_cell rfl _ _ x1 ((hG.cell (p := ⟨b1, 0, none⟩) (World.block_lt_of_cell? _ _ hc)).trans hc) rfl Tryz.underlying115) ⟨_, rfl, rfl, Ext.refl _⟩
    · refine dutyS_ext (hGx _) fun d a w' hG hF hA => ?_
      have x1 := hF.slot 1 _ (by decide) rfl
      exact wp_value (w' := w') (v := .pointer (some ⟨b2, 0, none⟩)) (by simp only [execOp, x1]; simp [go_sem]) ⟨_, rfl, rfl, Ext.refl _⟩
    · refine dutyS_ext (hGx _) fun d a w' hG hF hA => ?_
      have x1 := hA.val 4 18 rfl rfl ⟨⟨4, .data⟩, by simp, rfl, rfl⟩ rfl
      exact wp_value (ex_nilCheck rfl _ x1) ⟨_, rfl, rfl, Ext.refl _⟩
    · refine dutyS_ext (hGx _) fun d a w' hG hF hA => ?_
      have x1 := hA.val 5 19 rfl rfl ⟨⟨5, .data⟩, by simp, rfl, rfl⟩ rfl
      exact wp_value (w' := w') (v := .pointer (some ⟨b2, 0, none⟩)) (by simp only [execOp, x1]; simp [go_sem]) ⟨_, rfl, rfl, Ext.refl _⟩
    · refine dutyS_ext (hGx _) fun d a w' hG hF hA => ?_
      have x1 := hA.val 6 20 rfl rfl ⟨⟨6, .data⟩, by simp, rfl, rfl⟩ rfl
      have hc := HX2.out 0
      exact wp_value (ex_cell rfl _ _ x1 ((hG.cell (p := ⟨b2, 0, none⟩) (World.block_lt_of_cell? _ _ hc)).trans hc) rfl Tryz.underlying115) ⟨_, rfl, rfl, Ext.refl _⟩
    · refine dutyS_ext (hGx _) fun d a w' hG hF hA => ?_
      have x1 := hA.val 3 17 rfl rfl ⟨⟨3, .data⟩, by simp, rfl, rfl⟩ rfl
      have x2 := hA.val 7 21 rfl rfl ⟨⟨7, .data⟩, by simp, rfl, rfl⟩ rfl
      refine wp_enter (ex_call rfl (enters_f Tryz.func115 (by kernel_rfl) rfl)) (by simp only [List.map_toArray, List.map_cons, List.map_nil, x1, x2]; exact HC.out w' hG) ?_
      rintro e w4 ⟨rfl, h4⟩
      exact ⟨_, rfl, _, rfl, rfl, h4⟩
    · refine dutyS_ext (hGx _) fun d a w' hG hF hA => ?_
      have x1 := hA.val 8 22 rfl rfl ⟨⟨8, .data⟩, by simp, rfl, rfl⟩ rfl
      exact wp_value (w' := w') (v := .bool true) (by simp only [execOp, x1]; simp [go_sem]) ⟨_, rfl, rfl, Ext.refl _⟩
  case rest =>
    intro d W4 hdn hG4
    have HE := Lib.hid hG4
    clear hG4 hdn hG0 hGx HC
    simp only [filled, List.zip_cons_cons, List.zip_nil_left, List.foldl_cons, List.foldl_nil, Act.put, List.setIfInBounds_toArray, List.set_cons_succ, List.set_cons_zero, Exit.inBlock, Exit.then]
    rename_i hK
    refine hK _ _ ?_
    clear hK
    go_wp2
    go_ret
    exact ⟨rfl, HE.out⟩
end Go.Proofs.YtamolbegmkngdaaGreatDoor
namespace Go.Proofs.YtamolbegmkngdaaGreatDoor
open Go.RowKit Go.Sort
set_option maxHeartbeats 8000000
set_option maxRecDepth 100000

/-- A node that is told as new is in the tree, just so. -/
def G1 (M I : List (Key × Nd)) (k : Key) : Prop := ∃ n y, mget I k = some n ∧ mget M k = some y ∧ sameN y n = true
/-- A node that is told as old is not in the tree, or is told as new, too. -/
def G2 (M I : List (Key × Nd)) (k : Key) : Prop := ¬ ((mget M k).isSome = true ∧ (mget I k).isSome = false)
def turnOk (M : List (Key × Nd)) (old now : List Nd) : Prop := dupB old = false ∧ dupB now = false ∧ (∀ k n, mget (pairM now) k = some n → G1 M (pairM now) k) ∧ ∀ k n, mget (pairM old) k = some n → G2 M (pairM now) k
/-- What Turn answers. -/
noncomputable def turnP (M : List (Key × Nd)) (old now : List Nd) : Int := @ite _ (turnOk M old now) (Classical.propDecidable _) 0 1
theorem turnP_yes {M : List (Key × Nd)} {old now : List Nd} (h : turnOk M old now) : turnP M old now = 0 := by unfold turnP; rw [if_pos h]
theorem turnP_no {M : List (Key × Nd)} {old now : List Nd} (h : ¬ turnOk M old now) : turnP M old now = 1 := by unfold turnP; rw [if_neg h]

/-- The rounds of a range that only looks. -/
def LT (b r : Nat) (mb : List (Key × Value)) (G : Key → Prop) (w wr : World) : Prop := ∃ (left : Lit → Bool) (cnt : Nat), Hid (wr.ranges Tryz.prog 9 Rv b r mb.length (kvD mb) left cnt) ∧ Hid (∀ k v, mget mb k = some v → left (.string k) = false → G k) ∧ Hid (Ext w wr)
theorem lt_start {b r : Nat} {mb : List (Key × Value)} {G : Key → Prop} {w wr : World} {cnt : Nat} (h : wr.ranges Tryz.prog 9 Rv b r mb.length (kvD mb) (Maps.has (kvD mb)) cnt) (hE : Ext w wr) : LT b r mb G w wr :=
  ⟨_, cnt, h, (fun k v hk hl => by rw [kvD_has, hk] at hl; cases hl), hE⟩
theorem lt_step {mb : List (Key × Value)} {G : Key → Prop} {left : Lit → Bool} {p : ByteArray} (h : ∀ k v, mget mb k = some v → left (.string k) = false → G k) (hp : G p.data.toList) :
    ∀ k v, mget mb k = some v → (left (.string k) && !(Lit.string k).sameKey (.string p.data.toList)) = false → G k := fun k v hk hl => by
  have hsame : (Lit.string k).sameKey (.string p.data.toList) = (k == p.data.toList) := rfl
  rw [hsame, Bool.and_eq_false_iff, Bool.not_eq_false'] at hl
  rcases hl with hl | hl
  · exact h k v hk hl
  · have : k = p.data.toList := by simpa using hl
    rw [this]; exact hp
theorem PairAt.imp {S S' : Nat → Prop} {w : World} {b : Nat} {M : List (Key × Nd)} (h : PairAt S w b M) (hS : ∀ k, S k → S' k) : PairAt S' w b M := by
  obtain ⟨m, h1, h2⟩ := h
  exact ⟨m, h1, h2.imp fun _ _ _ hv => hv.imp hS fun _ _ _ _ h => h⟩

def wvM (M : List (Key × Nd)) (p : ByteArray) : Int × Int := (((undK M p).length : Nat), ((bytesK M (undK M p) : Nat)))
def TurnQ (bb bm : Nat) (M : List (Key × Nd)) (old now : List Nd) (J3 : (Lit → Bool) → Bk → Prop) (w : World) (e : Ending) (w' : World) : Prop :=
  e = .returned (.int .i64 (turnP M old now)) ∧ ((¬ turnOk M old now ∧ Ext w w') ∨ (turnOk M old now ∧ Mod (· = bm) w w' ∧ ∃ U' left, (∀ k, left k = false) ∧ J3 left U' ∧ BookAt w' bb bm (bookV U')))

theorem qturn_any (S : Nat → Prop) (bt bb bm N : Nat) (M : List (Key × Nd)) (U : Bk) (old now : List Nd) (oa na : Option Addr) (oc nc : Nat) (w : World) (hT : TreeAt S w bt M N) (hc : Clo M) (hl : M.length * 168 ≤ 140737488355328) (hB : BookAt w bb bm (bookV U)) (hSb : ¬ S bm)
    (hO : NdsAt w.heap.size w oa old) (hN : NdsAt w.heap.size w na now) (hfO : ∀ n ∈ old, Fit n) (hfN : ∀ n ∈ now, Fit n) (hlO : old.length * 168 ≤ 140737488355328) (hlN : now.length * 168 ≤ 140737488355328) (hlU : U.length ≤ 140737488355328)
    {J1 J2 J3 : (Lit → Bool) → Bk → Prop} (hJ : turnOk M old now → SetJ (pairM old) (pairM now) (wvM M) U J1 J2 J3) :
    Calls Tryz.prog 64 #[.pointer (some ⟨bb, 0, none⟩), .pointer (some ⟨bt, 0, none⟩), .slice oa old.length oc, .slice na now.length nc] w (TurnQ bb bm M old now J3 w) := by
  have hbml := hB.2.lt
  have C1 := Lib.hid (paired_any old oa oc w hO hlO fun n hn => (hfO n hn).path)
  have HT := Lib.hid hT
  have HC := Lib.hid hc
  have HB := Lib.hid hB
  have HN := Lib.hid hN
  have HFO := Lib.hid hfO
  have HFN := Lib.hid hfN
  have HJ := Lib.hid hJ
  have HSB := Lib.hid hSb
  clear hT hc hB hO hN hfO hfN hJ hSb
  go_enter Tryz.func64, Tryz.ntmps64
  go_wp2_with fail
  refine C1.out.mono ?_
  rintro e W1 ⟨hE1, hc1⟩
  have C2 := Lib.hid (paired_any now na nc W1 (HN.out.ext hE1) hlN fun n hn => (HFN.out n hn).path)
  have HE1 := Lib.hid hE1
  have hz1 := hE1.size
  clear C1 hE1
  rcases hc1 with ⟨hd, rfl⟩ | ⟨hd, bp, rfl, hbp, hP⟩
  · have hno : ¬ turnOk M old now := fun h => by rw [h.1] at hd; cases hd
    clear hd
    go_wp2_with fail
    refine C2.out.mono ?_
    rintro e W2 ⟨hE2, hc2⟩
    have hfin : TurnQ bb bm M old now J3 w (.returned (.int .i64 1)) W2 := ⟨by rw [turnP_no hno], .inl ⟨hno, HE1.out.trans hE2⟩⟩
    have HFIN := Lib.hid hfin
    clear hfin hE2 C2 hno
    rcases hc2 with ⟨_, rfl⟩ | ⟨_, bi, rfl, _, _⟩
    · go_wp2
      go_ret
      exact HFIN.out
    · go_wp2
      go_ret
      exact HFIN.out
  have HP := Lib.hid hP
  clear hP
  go_wp2_with fail
  refine C2.out.mono ?_
  rintro e W2 ⟨hE2, hc2⟩
  have HE2 := Lib.hid hE2
  have hz2 := hE2.size
  clear hE2 C2
  rcases hc2 with ⟨hd2, rfl⟩ | ⟨hd2, bi, rfl, hbi, hI⟩
  · have hno : ¬ turnOk M old now := fun h => by rw [h.2.1] at hd2; cases hd2
    have hfin : TurnQ bb bm M old now J3 w (.returned (.int .i64 1)) W2 := ⟨by rw [turnP_no hno], .inl ⟨hno, HE1.out.trans HE2.out⟩⟩
    have HFIN := Lib.hid hfin
    clear hfin hno hd hd2
    go_wp2
    go_ret
    exact HFIN.out
  have hPI : PairAt (fun k => k < W2.heap.size) W2 bi (pairM now) := hI.imp fun k (hk : k < W1.heap.size) => by omega
  have hPP : PairAt (fun k => k < W2.heap.size) W2 bp (pairM old) := (HP.out.ext HE2.out).imp fun k (hk : k < w.heap.size) => by omega
  have HPI := Lib.hid hPI
  have HPP := Lib.hid hPP
  obtain ⟨mi, hmi, hri⟩ := hPI
  obtain ⟨mp, hmp, hrp⟩ := hPP
  have HRI := Lib.hid hri
  have HRP := Lib.hid hrp
  have HMP := Lib.hid hmp
  have hil := hmi.lt
  have hpl := hmp.lt
  have hEw := HE1.out.trans HE2.out
  have HEW := Lib.hid hEw
  have HD := Lib.hid (And.intro hd hd2)
  have hfI : ∀ x ∈ pairM now, Fit x.2 ∧ x.1 = keyN x.2 := fun x hx => ⟨HFN.out _ (pairM_mem now x hx).1, (pairM_mem now x hx).2⟩
  have hfP : ∀ x ∈ pairM old, Fit x.2 ∧ x.1 = keyN x.2 := fun x hx => ⟨HFO.out _ (pairM_mem old x hx).1, (pairM_mem old x hx).2⟩
  have HFI := Lib.hid hfI
  have HFP := Lib.hid hfP
  clear hI hri hrp hmp hEw hd hd2 HP hfI hfP HN
  go_wp2_with (at_range; refine wpList_range_s _ rfl _ 115 rfl 9 47 strT Tryz.underlying115 bi mi rfl hmi ?_; intro w0 hrg0 hg0 hs0)
  go_frame
  have hE0 : Ext W2 w0 := ⟨hg0.os, hg0.tape, hg0.output, hg0.size, fun k hk => hg0.block k hk (by simp)⟩
  have HL0 := Lib.hid (lt_start (G := G1 M (pairM now)) hrg0 hE0)
  clear hrg0 hg0 hs0 hE0 hmi
  go_loopw [] (fun wr => LT bi W2.heap.size mi (G1 M (pairM now)) W2 wr) (fun wr => wr.rangeLeft bi W2.heap.size)
  case atStart => exact HL0.out
  case round =>
    obtain ⟨left, cnt, HRG, HG, HE⟩ := hrel
    clear HL0
    go_wp2_with (at_next; refine wpList_next_s2 _ rfl _ rfl 9 strT bi W2.heap.size _ mi left cnt rfl HRG.out ?_ ?_)
    · intro hl0
      have hall : ∀ k n, mget (pairM now) k = some n → G1 M (pairM now) k := fun k n hk => by
        rcases HRI.out.get k with ⟨h1, _⟩ | ⟨y, v, _, h2, _⟩
        · rw [h1] at hk; cases hk
        · exact HG.out k v h2 (hl0 _)
      have HALL := Lib.hid hall
      have hmp : SMap Tryz.prog 9 wr bp mp := HMP.out.keep (HE.out.block bp hpl)
      have hzr := HE.out.size
      clear hall HRG HG hl0
      go_wp2_with (at_range; refine wpList_range_s _ rfl _ 115 rfl 9 47 strT Tryz.underlying115 bp mp rfl hmp ?_; intro w0 hrg0 hg0 hs0)
      go_frame
      have hE0 : Ext W2 w0 := HE.out.trans ⟨hg0.os, hg0.tape, hg0.output, hg0.size, fun k hk => hg0.block k hk (by simp)⟩
      have HL0 := Lib.hid (lt_start (G := G2 M (pairM now)) hrg0 hE0)
      obtain ⟨r2, hr2⟩ : ∃ r2, r2 = wr.heap.size := ⟨_, rfl⟩
      rw [← hr2] at HL0 ⊢
      rw [← hr2] at hzr
      clear hrg0 hg0 hs0 hE0 hmp HE hr2
      go_loopw [] (fun wr => LT bp r2 mp (G2 M (pairM now)) W2 wr) (fun wr => wr.rangeLeft bp r2)
      case atStart => exact HL0.out
      case round =>
        obtain ⟨left, cnt, HRG, HG, HE⟩ := hrel
        clear HL0
        go_wp2_with (at_next; refine wpList_next_s2 _ rfl _ rfl 9 strT bp r2 _ mp left cnt rfl HRG.out ?_ ?_)
        · intro hl0
          have hall2 : ∀ k n, mget (pairM old) k = some n → G2 M (pairM now) k := fun k n hk => by
            rcases HRP.out.get k with ⟨h1, _⟩ | ⟨y, v, _, h2, _⟩
            · rw [h1] at hk; cases hk
            · exact HG.out k v h2 (hl0 _)
          have hok : turnOk M old now := ⟨HD.out.1, HD.out.2, HALL.out, hall2⟩
          have hEw := HEW.out.trans HE.out
          have hTr := HT.out.ext hEw
          have hlen : (pairM now).length ≤ now.length := by
            have key : ∀ (l : List Nd) (A : List (Key × Nd)), (l.foldl (fun M n => mput M (keyN n) n) A).length ≤ A.length + l.length := by
              intro l
              induction l with
              | nil => exact fun A => Nat.le_refl _
              | cons n l ih =>
                intro A
                have h3 := ih (mput A (keyN n) n)
                have h4 := mput_le A (keyN n) n
                show (List.foldl (fun M n => mput M (keyN n) n) (mput A (keyN n) n) l).length ≤ _
                rw [List.length_cons]
                omega
            have h3 := key now []
            have h5 : ([] : List (Key × Nd)).length = 0 := rfl
            unfold pairM
            omega
          have CS := Lib.hid (qsettle_any (fun k => k < W2.heap.size) (some ⟨bt, 0, none⟩) bb bm bp bi U (pairM old) (pairM now) (wvM M) wr (HB.out.ext hEw) (HPP.out.ext HE.out) (HPI.out.ext HE.out) (by omega) (by omega) (fun k hk => Nat.lt_of_lt_of_le hk HE.out.size) HFP.out HFI.out (by omega) (HJ.out hok)
            (fun W p n hM hg => by
              obtain ⟨n', y, h1, h2, _⟩ := HALL.out _ _ hg
              have hTW : TreeAt S W bt M N := hTr.keep (fun k hk => by
                  have hk' := hTr.bound k hk
                  rw [Array.getElem?_eq_getElem hk']
                  exact hM.same k _ (Array.getElem?_eq_getElem hk') (.inl fun e => HSB.out (e ▸ hk))) (fun _ h => h) (fun k hk => Nat.lt_of_lt_of_le (hTr.bound k hk) hM.size) (Nat.le_refl _)
              obtain ⟨hfn, hkn⟩ := HFI.out _ (mget_some_mem hg)
              have hpp : p.size ≤ 9223372036854775800 := by
                have : p = n.path := ba_ext hkn
                rw [this]; exact hfn.path
              refine (weigh_any S W bt M N hTW HC.out p (by unfold maxLen; omega) hl).mono fun e w' h => ?_
              obtain ⟨rfl, h3⟩ := h
              rw [h2]
              exact ⟨rfl, h3⟩))
          have hpy := turnP_yes hok
          have HPY := Lib.hid hpy
          have HOK := Lib.hid hok
          have HEWr := Lib.hid hEw
          clear hall2 hok hEw hTr HRG HG hl0 hpy HE
          go_wp2_with fail
          refine CS.out.mono ?_
          rintro e X ⟨rfl, hex, hMX⟩
          have hfin : TurnQ bb bm M old now J3 w (.returned (.int .i64 0)) X := ⟨by rw [HPY.out], .inr ⟨HOK.out, (Mod.of_ext HEWr.out).trans hMX, hex⟩⟩
          have HFIN := Lib.hid hfin
          clear hfin hex hMX CS
          go_wp2
          go_ret
          exact HFIN.out
        · intro p v w1 cnt1 hps hlf hmg hrg1 hlt hg1 hs1 hen
          obtain ⟨n, hIn, hNd⟩ : ∃ n, mget (pairM old) p.data.toList = some n ∧ NdS (fun k => k < W2.heap.size) W2 v n := by
            rcases HRP.out.get p.data.toList with ⟨_, h2⟩ | ⟨y, u, h1, h2, h3⟩
            · rw [h2] at hmg; cases hmg
            · rw [h2] at hmg; cases hmg; exact ⟨y, h1, h3⟩
          obtain ⟨hfn, hkn⟩ := HFP.out _ (mget_some_mem hIn)
          have hpp : p.size ≤ 9223372036854775800 := by
            have : p = n.path := ba_ext hkn
            rw [this]; exact hfn.path
          have hE1 : Ext W2 w1 := HE.out.trans' ⟨hg1.os, hg1.tape, hg1.output, hg1.size, fun k hk => hg1.block k (Nat.lt_of_lt_of_le hk HE.out.size) (fun e => by have := Option.some.inj e; omega)⟩
          obtain ⟨v2, hv2, hlk, _⟩ := (HPI.out.ext hE1).look p hps
          have hzw := hE1.size
          obtain ⟨d1, e1, a1, f1, X3, e0, hset3, hbx3, hEX3, _, _⟩ := box_node hv2 fun k (hk : k < W2.heap.size) => by omega
          subst e0
          have hEw3 := HEW.out.trans (hE1.trans hEX3)
          have CG := Lib.hid (tget_any _ X3 bt M _ (HT.out.ext hEw3) p hps)
          have hrg3 := hrg1.kept ⟨hEX3.os, hEX3.tape, hEX3.output, hEX3.size, fun k hk _ => hEX3.block k hk⟩ (row := none) (by simp) (by simp)
          have HSET3 := Lib.hid hset3
          have HNEW3 := Lib.hid (heap_alloc_new w1 (.cells zeroNd 47))
          have HE3 := Lib.hid (hE1.trans hEX3)
          have HRG3 := Lib.hid hrg3
          have hg2 : G2 M (pairM now) p.data.toList ↔ ¬ ((mget M p.data.toList).isSome = true ∧ (mget (pairM now) p.data.toList).isSome = false) := Iff.rfl
          have HG2 := Lib.hid hg2
          have hno : ¬ G2 M (pairM now) p.data.toList → ¬ turnOk M old now := fun h h2 => h (h2.2.2.2 _ _ hIn)
          have HNO := Lib.hid hno
          generalize (mget (pairM now) p.data.toList).getD zeroN = y at *
          generalize (mget (pairM now) p.data.toList).isSome = st at *
          unfold ndC at HSET3 hlk
          unfold zeroNd at HSET3 HNEW3
          clear hg2 hno hset3 hbx3 hEX3 hrg1 hrg3 hE1 hv2 hEw3 hIn hmg hg1 hs1 hNd hkn hfn HE
          go_wp2_with (refine wpList_store_row rfl 47 (.tmp 18) (.tmp 75) rfl w1.heap.size _ rfl rfl 47 _ HNEW3.out sizeNd rfl (cells_node y d1 a1 _ _ e1 f1) ?_; rw [HSET3.out])
          refine CG.out.mono ?_
          rintro e X4 ⟨v4, rfl, hv4, hE4⟩
          obtain ⟨d2, e2, a2, f2, X5, e0, hset5, hbx5, hEX5, _, _⟩ := box_node hv4 fun b hb => hb.2
          subst e0
          have hE35 := hE4.trans hEX5
          have HSET5 := Lib.hid hset5
          have HNEW5 := Lib.hid (heap_alloc_new X4 (.cells zeroNd 47))
          have HRG5 := Lib.hid (HRG3.out.kept ⟨hE35.os, hE35.tape, hE35.output, hE35.size, fun k hk _ => hE35.block k hk⟩ (row := none) (by simp) (by simp))
          have HE5 := Lib.hid (HE3.out.trans hE35)
          generalize (mget M p.data.toList).getD zeroN = z at *
          generalize (mget M p.data.toList).isSome = th at *
          unfold ndC at HSET5 ⊢
          unfold zeroNd at HSET5 HNEW5
          clear CG hset5 hbx5 hEX5 hE35 hE4 hv4 HRG3 HE3 HSET3 HNEW3
          by_cases hbad : th = true ∧ st = false
          · obtain ⟨rfl, rfl⟩ := hbad
            have hn := HNO.out fun h => HG2.out.1 h ⟨rfl, rfl⟩
            have hfin : TurnQ bb bm M old now J3 w (.returned (.int .i64 1)) X5 := ⟨by rw [turnP_no hn], .inl ⟨hn, HEW.out.trans HE5.out⟩⟩
            have HFIN := Lib.hid hfin
            clear hfin hn HNO HG2
            go_wp2_with (refine wpList_store_row rfl 47 (.tmp 20) (.tmp 81) rfl X4.heap.size _ rfl rfl 47 _ HNEW5.out sizeNd rfl (cells_node z d2 a2 _ _ e2 f2) ?_; rw [HSET5.out])
            go_ret
            exact HFIN.out
          · have hgk := lt_step HG.out (HG2.out.2 hbad)
            have HGK := Lib.hid hgk
            clear hgk HNO HG2
            have hb1 : (th && !st) = false := by
              cases th <;> cases st <;> simp_all
            clear hbad
            cases th with
            | false =>
              go_wp2_with (refine wpList_store_row rfl 47 (.tmp 20) (.tmp 81) rfl X4.heap.size _ rfl rfl 47 _ HNEW5.out sizeNd rfl (cells_node z d2 a2 _ _ e2 f2) ?_; rw [HSET5.out])
              go_roundw
              case rel => exact ⟨_, cnt1, HRG5.out, HGK.out, HE5.out⟩
              case measure => rw [HRG5.out.left_eq, HRG.out.left_eq]; exact hlt
            | true =>
              obtain rfl : st = true := by simpa using hb1
              go_wp2_with (refine wpList_store_row rfl 47 (.tmp 20) (.tmp 81) rfl X4.heap.size _ rfl rfl 47 _ HNEW5.out sizeNd rfl (cells_node z d2 a2 _ _ e2 f2) ?_; rw [HSET5.out])
              go_roundw
              case rel => exact ⟨_, cnt1, HRG5.out, HGK.out, HE5.out⟩
              case measure => rw [HRG5.out.left_eq, HRG.out.left_eq]; exact hlt
    · intro p v w1 cnt1 hps hlf hmg hrg1 hlt hg1 hs1 hen
      obtain ⟨n, hIn, hNd⟩ : ∃ n, mget (pairM now) p.data.toList = some n ∧ NdS (fun k => k < W2.heap.size) W2 v n := by
        rcases HRI.out.get p.data.toList with ⟨_, h2⟩ | ⟨y, u, h1, h2, h3⟩
        · rw [h2] at hmg; cases hmg
        · rw [h2] at hmg; cases hmg; exact ⟨y, h1, h3⟩
      obtain ⟨hfn, hkn⟩ := HFI.out _ (mget_some_mem hIn)
      have hfn : Fit n := hfn
      have hE1 : Ext W2 w1 := HE.out.trans' ⟨hg1.os, hg1.tape, hg1.output, hg1.size, fun k hk => hg1.block k (Nat.lt_of_lt_of_le hk HE.out.size) (fun e => by have := Option.some.inj e; omega)⟩
      have hzw := hE1.size
      have hNd1 : NdS (fun k => k < W2.heap.size) w1 v n := NdS.imp hNd (fun _ h => h) fun b o u _ hu => (hE1.cell (World.block_lt_of_cell? _ _ hu)).trans hu
      obtain ⟨d1, e1, a1, f1, X3, e0, hset3, hbx3, hEX3, hDn, hAn⟩ := box_node hNd1 fun k (hk : k < W2.heap.size) => by omega
      subst e0
      have hEw3 := HEW.out.trans (hE1.trans hEX3)
      have CG := Lib.hid (tget_any _ X3 bt M _ (HT.out.ext hEw3) p hps)
      have hrg3 := hrg1.kept ⟨hEX3.os, hEX3.tape, hEX3.output, hEX3.size, fun k hk _ => hEX3.block k hk⟩ (row := none) (by simp) (by simp)
      have HSET3 := Lib.hid hset3
      have HNEW3 := Lib.hid (heap_alloc_new w1 (.cells zeroNd 47))
      have HB3 := Lib.hid hbx3
      have HE3 := Lib.hid (hE1.trans hEX3)
      have HRG3 := Lib.hid hrg3
      have HDN := Lib.hid hDn
      have HAN := Lib.hid hAn
      have HIN := Lib.hid hIn
      have HFNn := Lib.hid hfn
      have hzx3 := hEX3.size
      have hX3 : w1.heap.size < X3.heap.size := (Array.getElem?_eq_some_iff.1 hbx3).1
      unfold ndC at HSET3 hen
      unfold zeroNd at HSET3 HNEW3
      clear hset3 hbx3 hEX3 hrg1 hrg3 hE1 hEw3 hIn hmg hg1 hs1 hNd hNd1 hkn hfn HE hDn hAn
      go_wp2_with (refine wpList_store_row rfl 47 (.tmp 14) (.tmp 50) rfl w1.heap.size _ rfl rfl 47 _ HNEW3.out sizeNd rfl (cells_node n d1 a1 _ _ e1 f1) ?_; rw [HSET3.out])
      refine CG.out.mono ?_
      rintro e X4 ⟨v4, rfl, hv4, hE4⟩
      have hE4 : Ext X3 X4 := hE4
      obtain ⟨d2, e2, a2, f2, X5, e0, hset5, hbx5, hEX5, hDz, hAz⟩ := box_node hv4 fun b hb => hb.2
      subst e0
      have hE35 := hE4.trans hEX5
      have hfz := HT.out.ok.fit p.data.toList
      have HSET5 := Lib.hid hset5
      have HNEW5 := Lib.hid (heap_alloc_new X4 (.cells zeroNd 47))
      have HRG5 := Lib.hid (HRG3.out.kept ⟨hE35.os, hE35.tape, hE35.output, hE35.size, fun k hk _ => hE35.block k hk⟩ (row := none) (by simp) (by simp))
      have HE5 := Lib.hid (HE3.out.trans hE35)
      have HB5 := Lib.hid ((hE35.block _ hX3).trans HB3.out)
      have HB6 := Lib.hid hbx5
      have hzx4 := hE4.size
      cases hg : mget M p.data.toList with
      | none =>
        have hn : ¬ turnOk M old now := fun h => by
          obtain ⟨n', y, _, h2, _⟩ := h.2.2.1 _ _ HIN.out
          rw [hg] at h2; cases h2
        have hfin : TurnQ bb bm M old now J3 w (.returned (.int .i64 1)) X5 := ⟨by rw [turnP_no hn], .inl ⟨hn, HEW.out.trans HE5.out⟩⟩
        have HFIN := Lib.hid hfin
        rw [hg] at HSET5
        simp only [Option.getD_none, Option.isSome_none] at HSET5 ⊢
        unfold ndC at HSET5 ⊢
        unfold zeroNd at HSET5 HNEW5
        clear hfin hn hg CG hset5 hbx5 hEX5 hE35 hE4 hv4 HRG3 HE3 HSET3 HNEW3 hDz hAz hfz HB5 HB6 HB3
        go_wp2_with (refine wpList_store_row rfl 47 (.tmp 15) (.tmp 55) rfl X4.heap.size _ rfl rfl 47 _ HNEW5.out sizeNd rfl (cells_node zeroN d2 a2 _ _ e2 f2) ?_; rw [HSET5.out])
        go_ret
        exact HFIN.out
      | some z =>
        rw [hg] at HSET5 HB6 hDz hAz hfz
        simp only [Option.getD_some, Option.isSome_some] at HSET5 HB6 hDz hAz hfz ⊢
        have CS := Lib.hid (ssame_any z n d2 a2 d1 a1 e2 f2 e1 f1 X5 hfz HFNn.out hDz hAz (HDN.out.ext hE35) (HAN.out.ext hE35))
        unfold ndC at HSET5 HB5 HB6 CS ⊢
        unfold zeroNd at HSET5 HNEW5
        have HGM := Lib.hid hg
        clear hg CG hset5 hbx5 hEX5 hE35 hE4 hv4 HRG3 HE3 HSET3 HNEW3 hDz hAz hfz HB3
        go_wp2_with (first | (refine wpList_store_row rfl 47 (.tmp 15) (.tmp 55) rfl X4.heap.size _ rfl rfl 47 _ HNEW5.out sizeNd rfl (cells_node z d2 a2 _ _ e2 f2) ?_; rw [HSET5.out]) | (refine wpList_load_row rfl 47 (.tmp 15) rfl X4.heap.size rfl 47 _ (0, 0) _ HB6.out Tryz.underlying47 rfl sizeNd ?_) | (refine wpList_load_row rfl 47 (.tmp 14) rfl w1.heap.size rfl 47 _ (0, 0) _ HB5.out Tryz.underlying47 rfl sizeNd ?_) | (refine wpList_load_row_g (by rfl) 47 (.tmp 15) rfl X4.heap.size rfl 47 _ (0, 0) _ HB6.out Tryz.underlying47 rfl sizeNd ?_) | (refine wpList_load_row_g (by rfl) 47 (.tmp 14) rfl w1.heap.size rfl 47 _ (0, 0) _ HB5.out Tryz.underlying47 rfl sizeNd ?_))
        refine CS.out.mono ?_
        rintro e X6 ⟨rfl, hE6⟩
        have hE6 : Ext X5 X6 := hE6
        have HRG6 := Lib.hid (HRG5.out.kept ⟨hE6.os, hE6.tape, hE6.output, hE6.size, fun k hk _ => hE6.block k hk⟩ (row := none) (by simp) (by simp))
        have HE6 := Lib.hid (HE5.out.trans hE6)
        clear CS hE6 HRG5 HE5 HB5 HB6
        cases hsm : sameN z n with
        | true =>
          have hgk := lt_step HG.out (show G1 M (pairM now) p.data.toList from ⟨n, z, HIN.out, HGM.out, hsm⟩)
          have HGK := Lib.hid hgk
          clear hgk hsm
          go_wp2
          go_roundw
          case rel => exact ⟨_, cnt1, HRG6.out, HGK.out, HE6.out⟩
          case measure => rw [HRG6.out.left_eq, HRG.out.left_eq]; exact hlt
        | false =>
          have hn : ¬ turnOk M old now := fun h => by
            obtain ⟨n', y, h1, h2, h3⟩ := h.2.2.1 _ _ HIN.out
            rw [HIN.out] at h1
            rw [HGM.out] at h2
            cases h1; cases h2
            rw [hsm] at h3; cases h3
          have hfin : TurnQ bb bm M old now J3 w (.returned (.int .i64 1)) X6 := ⟨by rw [turnP_no hn], .inl ⟨hn, HEW.out.trans HE6.out⟩⟩
          have HFIN := Lib.hid hfin
          clear hfin hn hsm
          go_wp2
          go_ret
          exact HFIN.out
end Go.Proofs.YtamolbegmkngdaaGreatDoor
namespace Go.Proofs.YtamolbegmkngdaaGreatDoor
open Go.RowKit Go.Sort
set_option maxHeartbeats 4000000
set_option maxRecDepth 100000

theorem qexceeds_b (pv : Value) (M : List (Key × Nd)) (w : World) (hM : MOk M) (hG : GetsM pv M w) (s : ByteArray) (hs : s.size ≤ 9223372036854775800) (dn db : Int) (x : Nat) (uc ub : Nd → Int)
    (hU : ∀ W n, Ext w W → n ∈ overL M s → Calls Tryz.prog 98 #[.string n.path, .pointer (some ⟨x, 0, none⟩)] W fun e w' => e = .returned (.agg #[.int .i64 (uc n), .int .i64 (ub n)]) ∧ Ext W w') :
    Calls Tryz.prog 84 #[pv, .string s, .int .i64 dn, .int .i64 db, .func (.func 98) #[] #[.pointer (some ⟨x, 0, none⟩)]] w (ExcOut (fun n => passB n.count (uc n) dn || passB n.bytes (ub n) db) (overL M s) w) := by
  have C1 := Lib.hid (qover_any pv M w hM hG s hs)
  have hle := overL_le M s
  have HU := Lib.hid hU
  clear hG hU
  generalize overL M s = L at *
  generalize hPP : (fun n : Nd => passB n.count (uc n) dn || passB n.bytes (ub n) db) = PP
  have HPP := Lib.hid (fun n => (congrFun hPP n).symm)
  clear hPP
  go_enter Tryz.func84, Tryz.ntmps84
  go_wp2_with fail
  refine C1.out.mono ?_
  rintro e W1 ⟨v, rfl, hown, hE1⟩
  obtain ⟨a, c, vs, rfl, _, _, hrows, _⟩ := hown.rows
  have HROWS := Lib.hid hrows
  have HE1 := Lib.hid hE1
  have hz1 := hE1.size
  clear C1 hown hrows hE1
  go_wp2
  go_loopw [19] (fun i wr => ∃ k : Nat, k ≤ L.length ∧ i = .int .i64 k ∧ Hid (L.find? PP = (L.drop k).find? PP) ∧ Ext W1 wr) (fun i _ => L.length - (intOf i).toNat)
  case atStart => exact ⟨0, Nat.zero_le _, rfl, rfl, Ext.refl _⟩
  case round =>
    obtain ⟨k, hk, rfl, HF, hE⟩ := hrel
    by_cases hlt : k < L.length
    · obtain ⟨bl, off, da, dc, aa, ac, ea, hSb, hc, hD, hA, _⟩ := HROWS.out.row (List.getElem?_eq_getElem hlt)
      subst ea
      have hskip := find_skip (P := PP) hlt
      have hhit := find_hit (P := PP) hlt
      have hmem := List.getElem_mem hlt
      have hP := HPP.out L[k]
      generalize L[k] = n at *
      have hcw : ∀ j u, (ndC n (.slice da n.data.length dc) (.slice aa n.acl.length ac))[j]? = some u → wr.cell? ((⟨bl, off + k * 17, none⟩ : Addr).add j) = some u := fun j u hj => by
        rw [addr_add, hE.cell (p := ⟨bl, off + k * 17 + j, none⟩) hSb.2]; exact hc j u hj
      obtain ⟨X1, hX1⟩ : ∃ X1, X1 = wr.alloc (.cells (ndC n (.slice da n.data.length dc) (.slice aa n.acl.length ac)) 47) := ⟨_, rfl⟩
      have HSET1 := Lib.hid ((setRow_alloc wr zeroNd (ndC n (.slice da n.data.length dc) (.slice aa n.acl.length ac)) 47).trans hX1.symm)
      have HNEW1 := Lib.hid (heap_alloc_new wr (.cells zeroNd 47))
      have hEX1 : Ext wr X1 := by rw [hX1]; exact Ext.alloc _ _
      have hb1 : X1.heap[wr.heap.size]? = some (.cells (ndC n (.slice da n.data.length dc) (.slice aa n.acl.length ac)) 47 (0, 0)) := by rw [hX1]; exact heap_alloc_new wr _
      have hp : X1.cell? ⟨wr.heap.size, 0, none⟩ = some (.string n.path) := cell_of_row _ _ _ _ _ _ hb1
      have HE := Lib.hid (hE.trans hEX1)
      have CU := Lib.hid (HU.out X1 n (HE1.out.trans HE.out) hmem)
      have HC := Lib.hid hcw
      have HB1 := Lib.hid hb1
      have HHIT := Lib.hid hhit
      have HSKIP := Lib.hid hskip
      have HP := Lib.hid hP
      unfold ndC at HC HSET1
      unfold zeroNd at HSET1 HNEW1
      clear hcw hc hD hA hE hX1 hEX1 hb1 hskip hhit hmem hP
      go_wp2_with (first | (refine wpList_load_at rfl 47 (.tmp 21) rfl _ rfl _ _ HC.out Tryz.underlying47 rfl sizeNd ?_) | (refine wpList_store_row rfl 47 (.tmp 13) (.tmp 22) rfl wr.heap.size _ rfl rfl 47 _ HNEW1.out sizeNd rfl (cells_node n da aa _ _ dc ac) ?_; rw [HSET1.out]))
      refine CU.out.mono ?_
      rintro e X2 ⟨rfl, hE2⟩
      have hE2 : Ext X1 X2 := hE2
      obtain ⟨X3, hX3⟩ : ∃ X3, X3 = X2.alloc (.cells #[.int .i64 (uc n), .int .i64 (ub n)] 110) := ⟨_, rfl⟩
      have HSET2 := Lib.hid ((setRow_alloc X2 zeroUsed #[.int .i64 (uc n), .int .i64 (ub n)] 110).trans hX3.symm)
      have HNEW2 := Lib.hid (heap_alloc_new X2 (.cells zeroUsed 110))
      have hE3 : Ext X1 X3 := hE2.trans (by rw [hX3]; exact Ext.alloc _ _)
      have hb3 : X3.heap[X2.heap.size]? = some (.cells #[.int .i64 (uc n), .int .i64 (ub n)] 110 (0, 0)) := by rw [hX3]; exact heap_alloc_new X2 _
      have hbn : X3.heap[wr.heap.size]? = some (.cells (ndC n (.slice da n.data.length dc) (.slice aa n.acl.length ac)) 47 (0, 0)) := (hE3.block wr.heap.size (Array.getElem?_eq_some_iff.1 HB1.out).1).trans HB1.out
      have u0 : X3.cell? ⟨X2.heap.size, 0, none⟩ = some (.int .i64 (uc n)) := cell_of_row _ _ _ _ _ _ hb3
      have u1 : X3.cell? ⟨X2.heap.size, 1, none⟩ = some (.int .i64 (ub n)) := cell_of_row _ _ _ _ _ _ hb3
      have n0 : X3.cell? ⟨wr.heap.size, 0, none⟩ = some (.string n.path) := cell_of_row _ _ _ _ _ _ hbn
      have n15 : X3.cell? ⟨wr.heap.size, 15, none⟩ = some (.int .i64 n.count) := cell_of_row _ _ _ _ _ _ hbn
      have n16 : X3.cell? ⟨wr.heap.size, 16, none⟩ = some (.int .i64 n.bytes) := cell_of_row _ _ _ _ _ _ hbn
      have CP1 := Lib.hid (passes_any n.count (uc n) dn X3)
      have CP2 := Lib.hid (passes_any n.bytes (ub n) db X3)
      have HE3 := Lib.hid (HE.out.trans hE3)
      unfold zeroUsed at HSET2 HNEW2
      clear CU hE2 hX3 hE3 hb3 hbn hp HB1 HC HSET1 HNEW1
      have hfin : PP n = true → ExcOut PP L w (.returned (.tuple #[.string n.path, .bool true])) X3 := fun h => ⟨by rw [HF.out, HHIT.out h], HE1.out.trans HE3.out⟩
      have HFIN := Lib.hid hfin
      clear hfin
      cases h1 : passB n.count (uc n) dn with
      | true =>
        rw [h1] at CP1 HP
        have HX := Lib.hid (HFIN.out (by rw [HP.out]; rfl))
        clear h1 HFIN CP2
        go_wp2_with (refine wpList_store_row rfl 110 (.tmp 14) (.tmp 26) rfl X2.heap.size _ rfl rfl 110 _ HNEW2.out sizeUsed rfl (by simp [Value.oneCell']) ?_; rw [HSET2.out])
        refine CP1.out.mono ?_
        rintro e X4 ⟨rfl, rfl⟩
        clear CP1
        go_wp2
        go_ret2
        exact HX.out
      | false =>
        rw [h1] at CP1 HP
        cases h2 : passB n.bytes (ub n) db with
        | true =>
          rw [h2] at CP2 HP
          have HX := Lib.hid (HFIN.out (by rw [HP.out]; rfl))
          clear h1 h2 HFIN
          go_wp2_with (refine wpList_store_row rfl 110 (.tmp 14) (.tmp 26) rfl X2.heap.size _ rfl rfl 110 _ HNEW2.out sizeUsed rfl (by simp [Value.oneCell']) ?_; rw [HSET2.out])
          refine CP1.out.mono ?_
          rintro e X4 ⟨rfl, rfl⟩
          clear CP1
          go_wp2_with fail
          refine CP2.out.mono ?_
          rintro e X5 ⟨rfl, rfl⟩
          clear CP2
          go_wp2
          go_ret2
          exact HX.out
        | false =>
          rw [h2] at CP2 HP
          have hf := HF.out.trans (HSKIP.out (by rw [HP.out]; rfl))
          have HF2 := Lib.hid hf
          clear h1 h2 HFIN hf
          go_wp2_with (refine wpList_store_row rfl 110 (.tmp 14) (.tmp 26) rfl X2.heap.size _ rfl rfl 110 _ HNEW2.out sizeUsed rfl (by simp [Value.oneCell']) ?_; rw [HSET2.out])
          refine CP1.out.mono ?_
          rintro e X4 ⟨rfl, rfl⟩
          clear CP1
          go_wp2_with fail
          refine CP2.out.mono ?_
          rintro e X5 ⟨rfl, rfl⟩
          clear CP2 u0 u1 n0 n15 n16
          go_wp2
          go_roundw
          case rel => exact ⟨k + 1, by omega, by go_num, HF2.out, HE3.out⟩
          case measure => simp [intOf]; omega
    · obtain rfl : k = L.length := by omega
      have hfin : ExcOut PP L w (.returned (.tuple #[.string ⟨#[]⟩, .bool false])) wr := ⟨by rw [HF.out, List.drop_length]; rfl, HE1.out.trans hE⟩
      have HFIN := Lib.hid hfin
      clear hfin hE
      go_wp2
      go_ret2
      exact HFIN.out


theorem qbex1_any (x bb bm : Nat) (m : List (Key × Value)) (q : ByteArray) (c b : Int) (w : World) (hx : w.cell? ⟨x, 0, none⟩ = some (.pointer (some ⟨bb, 0, none⟩))) (hB : BookAt w bb bm m) (hv : Pairs m) (hq : q.size ≤ maxLen) (hcb : usedAt m q = .agg #[.int .i64 c, .int .i64 b]) :
    Calls Tryz.prog 98 #[.string q, .pointer (some ⟨x, 0, none⟩)] w fun e w' => e = .returned (.agg #[.int .i64 c, .int .i64 b]) ∧ Ext w w' := by
  obtain ⟨W1, hW1⟩ : ∃ W1, W1 = w.alloc (.cells zeroUsed 110) := ⟨_, rfl⟩
  have hE1 : Ext w W1 := by rw [hW1]; exact Ext.alloc _ _
  have hr1 : W1.heap[w.heap.size]? = some (.cells zeroUsed 110 (0, 0)) := by rw [hW1]; exact heap_alloc_new w _
  have hx1 : (w.alloc (.cells zeroUsed 110)).cell? ⟨x, 0, none⟩ = some (.pointer (some ⟨bb, 0, none⟩)) := by rw [← hW1]; exact (hE1.cell (p := ⟨x, 0, none⟩) (World.block_lt_of_cell? _ _ hx)).trans hx
  have CU := qused_any W1 bb bm m (hB.ext hE1) hv q hq
  rw [hcb] at CU
  have CU := Lib.hid CU
  generalize (mget m q.data.toList).isSome = th at *
  have HW1 := Lib.hid hW1
  have HR1 := Lib.hid hr1
  have HE1 := Lib.hid hE1
  unfold zeroUsed at HW1 hx1
  clear hW1 hr1 hE1 hx hB hcb
  go_enter Tryz.func98, Tryz.ntmps98
  go_wp2_with fail
  rw [← HW1.out]
  refine CU.out.mono ?_
  rintro e W2 ⟨rfl, hE2⟩
  have hE2 : Ext W1 W2 := hE2
  obtain ⟨X3, hX3⟩ : ∃ X3, X3 = W2.alloc (.cells #[.int .i64 c, .int .i64 b] 110) := ⟨_, rfl⟩
  have HSET := Lib.hid ((setRow_alloc W2 zeroUsed #[.int .i64 c, .int .i64 b] 110).trans hX3.symm)
  have HNEW := Lib.hid (heap_alloc_new W2 (.cells zeroUsed 110))
  have hEX : Ext W1 X3 := hE2.trans (by rw [hX3]; exact Ext.alloc _ _)
  have hb3 : X3.heap[W2.heap.size]? = some (.cells #[.int .i64 c, .int .i64 b] 110 (0, 0)) := by rw [hX3]; exact heap_alloc_new W2 _
  have hr3 := (hEX.block w.heap.size (Array.getElem?_eq_some_iff.1 HR1.out).1).trans HR1.out
  have hr4 := setRow_heap X3 w.heap.size _ #[.int .i64 c, .int .i64 b] 110 (0, 0) hr3
  have hE4 : Ext w (X3.setRow w.heap.size #[.int .i64 c, .int .i64 b]) := (HE1.out.trans hEX).trans' ⟨rfl, rfl, rfl, by simp [World.setRow], fun k hk => setRow_other _ _ _ _ (by omega)⟩
  have HB3 := Lib.hid hb3
  have HR3 := Lib.hid hr3
  have HR4 := Lib.hid hr4
  have HE4 := Lib.hid hE4
  unfold zeroUsed at HSET HNEW HR3
  clear CU hE2 hX3 hEX hb3 hr3 hr4 hE4 HW1 hx1
  go_wp2_with (first | (refine wpList_store_row rfl 110 (.tmp 4) (.tmp 10) rfl W2.heap.size _ rfl rfl 110 _ HNEW.out sizeUsed rfl (by simp [Value.oneCell']) ?_; rw [HSET.out]) | (refine wpList_load_row rfl 110 (.tmp 4) rfl W2.heap.size rfl 110 _ (0, 0) _ HB3.out Tryz.underlying110 rfl sizeUsed ?_) | (refine wpList_store_row rfl 110 (.tmp 3) (.tmp 12) rfl w.heap.size _ rfl rfl 110 _ HR3.out sizeUsed rfl (by simp [Value.oneCell']) ?_))
  refine bodyPost_ret (v := .agg #[.int .i64 c, .int .i64 b]) ?_ rfl ⟨rfl, HE4.out⟩
  exact results_cell_row (p := 3) (ty := 110) rfl _ _ w.heap.size 110 #[.int .i64 c, .int .i64 b] (0, 0) _ rfl HR4.out Tryz.underlying110 rfl sizeUsed

theorem qbExceeds_any (pv : Value) (M : List (Key × Nd)) (w : World) (bb bm : Nat) (m : List (Key × Value)) (hB : BookAt w bb bm m) (hv : Pairs m) (uc ub : Nd → Int) (hu : ∀ s n, n ∈ overL M s → usedAt m n.path = .agg #[.int .i64 (uc n), .int .i64 (ub n)]) (hM : MOk M) (hG : GetsM pv M w) (s : ByteArray) (hs : s.size ≤ 9223372036854775800) (dn db : Int) :
    Calls Tryz.prog 31 #[.pointer (some ⟨bb, 0, none⟩), pv, .string s, .int .i64 dn, .int .i64 db] w (ExcOut (fun n => passB n.count (uc n) dn || passB n.bytes (ub n) db) (overL M s) w) := by
  obtain ⟨W1, hW1⟩ : ∃ W1, W1 = w.alloc (.cells #[.pointer (some ⟨bb, 0, none⟩)] 57) := ⟨_, rfl⟩
  have hE1 : Ext w W1 := by rw [hW1]; exact Ext.alloc _ _
  have hx : W1.cell? ⟨w.heap.size, 0, none⟩ = some (.pointer (some ⟨bb, 0, none⟩)) := by rw [hW1]; exact cell_of_row _ _ _ _ _ _ (heap_alloc_new w _)
  have C := qexceeds_b pv M W1 hM (fun W t h1 h2 => hG W t (hE1.trans h1) h2) s hs dn db w.heap.size uc ub (fun W n h hn => by
    have hf := (overL_fit hM hn).path
    exact qbex1_any w.heap.size bb bm m n.path (uc n) (ub n) W ((h.cell (p := ⟨w.heap.size, 0, none⟩) (World.block_lt_of_cell? _ _ hx)).trans hx) ((hB.ext hE1).ext h) hv (by unfold maxLen; omega) (hu s n hn))
  generalize (fun n : Nd => passB n.count (uc n) dn || passB n.bytes (ub n) db) = PP at *
  have HW1 := Lib.hid hW1
  have HE1 := Lib.hid hE1
  unfold ExcOut at C ⊢
  clear hG hB hu hx hW1 hE1
  cases hf : (overL M s).find? PP with
  | none =>
    rw [hf] at C
    have C := Lib.hid C
    clear hf
    go_enter Tryz.func31, Tryz.ntmps31
    go_wp2_with fail
    rw [← HW1.out]
    refine C.out.mono ?_
    rintro e W2 ⟨rfl, hE2⟩
    have HFIN : Hid (Ext w W2) := HE1.out.trans hE2
    clear C hE2 HW1
    go_wp2
    go_ret2
    exact ⟨rfl, HFIN.out⟩
  | some n =>
    rw [hf] at C
    have C := Lib.hid C
    clear hf
    go_enter Tryz.func31, Tryz.ntmps31
    go_wp2_with fail
    rw [← HW1.out]
    refine C.out.mono ?_
    rintro e W2 ⟨rfl, hE2⟩
    have HFIN : Hid (Ext w W2) := HE1.out.trans hE2
    clear C hE2 HW1
    go_wp2
    go_ret2
    exact ⟨rfl, HFIN.out⟩
end Go.Proofs.YtamolbegmkngdaaGreatDoor
namespace Go.Proofs.YtamolbegmkngdaaGreatDoor
open Go.RowKit Go.Sort
set_option maxHeartbeats 4000000
set_option maxRecDepth 100000

theorem allsM_nil0 (w : World) (ga : Nat) : AllsM (.pointer none) [] w ga := fun W _ _ => by
  refine (tall_nil W).mono ?_
  rintro e W1 ⟨bw, btb, rfl, hcw, hE1⟩
  exact ⟨bw, btb, rfl, told_tells_nil (fun _ k => k ≠ ga) W1 bw btb 122 #[.pointer none] #[] hcw (enters_of Tryz.func122 (by kernel_rfl) rfl)
    (fun W _ => (show Calls Tryz.prog 122 #[.pointer none] W _ from (sorted_nil W).mono fun e w' h => by obtain ⟨rfl, rfl⟩ := h; exact ⟨rfl, Ext.refl _⟩)), hE1⟩

theorem overL_nil0 (s : ByteArray) : overL [] s = [] := by
  unfold overL
  split
  · rw [List.flatMap_eq_nil_iff]
    intro q _
    rfl
  · rfl
theorem qturn_nilb (po : Option Addr) (oa na : Option Addr) (ol nl oc nc : Nat) (w : World) : Calls Tryz.prog 64 #[.pointer none, .pointer po, .slice oa ol oc, .slice na nl nc] w fun e w' => e = .returned (.int .i64 2) ∧ w = w' := by
  go_enter Tryz.func64, Tryz.ntmps64
  go_wp2
  go_ret
  exact ⟨rfl, rfl⟩
theorem qturn_nilt (bb : Nat) (oa na : Option Addr) (ol nl oc nc : Nat) (w : World) : Calls Tryz.prog 64 #[.pointer (some ⟨bb, 0, none⟩), .pointer none, .slice oa ol oc, .slice na nl nc] w fun e w' => e = .returned (.int .i64 2) ∧ w = w' := by
  go_enter Tryz.func64, Tryz.ntmps64
  go_wp2
  go_ret
  exact ⟨rfl, rfl⟩
theorem qlist_nil (w : World) : Calls Tryz.prog 68 #[.pointer none] w fun e w' => e = .returned (.slice none 0 0) ∧ w = w' := by
  go_enter Tryz.func68, Tryz.ntmps68
  go_wp2
  go_ret
  exact ⟨rfl, rfl⟩
theorem zeroUsed_one : zeroUsed.all (·.oneCell') = true := by simp [zeroUsed, Value.oneCell']
theorem qused_nil (s : ByteArray) (w : World) : Calls Tryz.prog 67 #[.pointer none, .string s] w fun e w' => e = .returned (.tuple #[.agg zeroUsed, .bool false]) ∧ Ext w w' := by
  have HS := Lib.hid (setRow_self w zeroUsed 110)
  have HNew := Lib.hid (heap_alloc_new w (.cells zeroUsed 110))
  have HNew2 := Lib.hid (heap_alloc_new w (.cells zeroUsed 110))
  unfold zeroUsed at HS HNew
  go_enter Tryz.func67, Tryz.ntmps67
  go_wp2_with (refine wpList_store_row rfl 110 (.tmp 4) (.tmp 10) rfl w.heap.size _ rfl rfl 110 _ HNew.out sizeUsed rfl zeroUsed_one ?_; rw [HS.out])
  refine bodyPost_ret (v := .tuple #[.agg zeroUsed, .bool false]) ?_ rfl ⟨rfl, Ext.alloc _ _⟩
  exact results_cell_row2 (p := 4) (q := 5) (ty := 110) rfl _ _ w.heap.size 110 _ (0, 0) _ _ rfl rfl HNew2.out Tryz.underlying110 rfl sizeUsed
theorem qbex_nil (s : ByteArray) (hs : s.size ≤ 9223372036854775800) (dn db : Int) (w : World) : Calls Tryz.prog 31 #[.pointer none, .pointer none, .string s, .int .i64 dn, .int .i64 db] w fun e w' => e = .returned (.tuple #[.string ⟨#[]⟩, .bool false]) ∧ Ext w w' := by
  obtain ⟨W1, hW1⟩ : ∃ W1, W1 = w.alloc (.cells #[.pointer none] 57) := ⟨_, rfl⟩
  have hE1 : Ext w W1 := by rw [hW1]; exact Ext.alloc _ _
  have C := qexceeds_b (.pointer none) [] W1 MOk.nil (GetsM.nil _) s hs dn db w.heap.size (fun _ => 0) (fun _ => 0) (fun W n h hn => by rw [overL_nil0] at hn; simp at hn)
  unfold ExcOut at C
  rw [overL_nil0] at C
  have C : Calls Tryz.prog 84 #[.pointer none, .string s, .int .i64 dn, .int .i64 db, .func (.func 98) #[] #[.pointer (some ⟨w.heap.size, 0, none⟩)]] W1 fun e w' => e = .returned (.tuple #[.string ⟨#[]⟩, .bool false]) ∧ Ext W1 w' := C
  have C := Lib.hid C
  have HW1 := Lib.hid hW1
  have HE1 := Lib.hid hE1
  clear hW1 hE1
  go_enter Tryz.func31, Tryz.ntmps31
  go_wp2_with fail
  rw [← HW1.out]
  refine C.out.mono ?_
  rintro e W2 ⟨rfl, hE2⟩
  have HFIN : Hid (Ext w W2) := HE1.out.trans hE2
  clear C hE2 HW1
  go_wp2
  go_ret2
  exact ⟨rfl, HFIN.out⟩

theorem mapsEqual_nil (b : Nat) (w : World) (h : SMap Tryz.prog 9 w b []) : Calls Tryz.prog 128 #[.map none, .map (some b)] w fun e w' => e = .returned (.bool true) ∧ Ext w w' := by
  have l1 : ∀ ty, (Builtin.len_ #[149] ty #[.map none]).run Tryz.prog w = .ok (.int .i64 0) w := fun ty => Maps.len_nil Tryz.underlying149 ty
  have l2 : ∀ ty, (Builtin.len_ #[149] ty #[.map (some b)]).run Tryz.prog w = .ok (.int .i64 0) w := fun ty => h.len Tryz.underlying149 ty
  have hrg := run_range_nilMap (P := Tryz.prog) w 149 _ _ Tryz.underlying149
  have hnx : ∀ ty, (Instr.next (.pointer (some ⟨w.heap.size, 0, none⟩)) false ty).run Tryz.prog (w.alloc (.mapIter none 0 #[] 0)) = _ := fun ty => run_next_nilMap _ ty 0 0 #[]
  clear h
  go_enter Tryz.func128, Tryz.ntmps128
  go_wp2
  refine wp_loop_rounds 1 ?_
  rw [rounds_succ]
  go_wp2
  go_ret
  exact ⟨rfl, Ext.alloc _ _⟩
theorem qequal_nil (bb bm : Nat) (w : World) (hB : BookAt w bb bm []) : Calls Tryz.prog 69 #[.pointer none, .pointer (some ⟨bb, 0, none⟩)] w fun e w' => e = .returned (.bool true) ∧ Ext w w' := by
  obtain ⟨W1, hW1⟩ : ∃ W1, W1 = w.alloc (.cells #[.map none] 151) := ⟨_, rfl⟩
  have hE1 : Ext w W1 := by rw [hW1]; exact Ext.alloc _ _
  have hn : W1.cell? ⟨w.heap.size, 0, none⟩ = some (.map none) := by rw [hW1]; exact cell_of_row _ _ _ _ _ _ (heap_alloc_new w _)
  have hB1 := hB.ext hE1
  have hb : W1.cell? ⟨bb, 0, none⟩ = some (.map (some bm)) := cell_of_row _ _ _ _ _ _ hB1.1
  have HB1 := Lib.hid hB1
  have HE1 := Lib.hid hE1
  have HW1 := Lib.hid hW1
  clear hB hB1 hE1 hW1
  go_enter Tryz.func69, Tryz.ntmps69
  go_wp2_with fail
  rw [← HW1.out]
  refine wp_region_P (by kernel_rfl) (region_vals 22 [.pointer (some ⟨w.heap.size, 0, none⟩), .pointer (some ⟨w.heap.size, 0, none⟩), .pointer (some ⟨w.heap.size, 0, none⟩), .map none, .pointer (some ⟨bb, 0, none⟩), .pointer (some ⟨bb, 0, none⟩), .pointer (some ⟨bb, 0, none⟩), .map (some bm), .bool true, .bool true] rfl (by decide) rfl ?duties ?rest)
  case duties =>
    refine ⟨?_, ?_, ?_, ?_, ?_, ?_, ?_, ?_, ?_, ?_, trivial⟩
    · refine duty_free rfl fun a w' hE hF hA => ?_
      have x1 := hF.slot 0 _ (by decide) rfl
      exact wp_value (w' := w') (v := .pointer (some ⟨w.heap.size, 0, none⟩)) (by simp only [execOp, x1]; simp [go_sem]) ⟨_, rfl, rfl, Ext.refl _⟩
    · refine duty_free rfl fun a w' hE hF hA => ?_
      have x1 := hA.val 0 13 rfl rfl ⟨⟨0, .data⟩, by simp, rfl, rfl⟩ rfl
      exact wp_value (ex_nilCheck rfl _ x1) ⟨_, rfl, rfl, Ext.refl _⟩
    · refine duty_free rfl fun a w' hE hF hA => ?_
      have x1 := hA.val 1 14 rfl rfl ⟨⟨1, .data⟩, by simp, rfl, rfl⟩ rfl
      exact wp_value (w' := w') (v := .pointer (some ⟨w.heap.size, 0, none⟩)) (by simp only [execOp, x1]; simp [go_sem]) ⟨_, rfl, rfl, Ext.refl _⟩
    · refine duty_free rfl fun a w' hE hF hA => ?_
      have x1 := hA.val 2 15 rfl rfl ⟨⟨2, .data⟩, by simp, rfl, rfl⟩ rfl
      exact wp_value (ex_cell rfl _ _ x1 ((hE.cell (World.block_lt_of_cell? _ _ hn)).trans hn) rfl Tryz.underlying149) ⟨_, rfl, rfl, Ext.refl _⟩
    · refine duty_free rfl fun a w' hE hF hA => ?_
      have x1 := hF.slot 1 _ (by decide) rfl
      exact wp_value (w' := w') (v := .pointer (some ⟨bb, 0, none⟩)) (by simp only [execOp, x1]; simp [go_sem]) ⟨_, rfl, rfl, Ext.refl _⟩
    · refine duty_free rfl fun a w' hE hF hA => ?_
      have x1 := hA.val 4 17 rfl rfl ⟨⟨4, .data⟩, by simp, rfl, rfl⟩ rfl
      exact wp_value (ex_nilCheck rfl _ x1) ⟨_, rfl, rfl, Ext.refl _⟩
    · refine duty_free rfl fun a w' hE hF hA => ?_
      have x1 := hA.val 5 18 rfl rfl ⟨⟨5, .data⟩, by simp, rfl, rfl⟩ rfl
      exact wp_value (w' := w') (v := .pointer (some ⟨bb, 0, none⟩)) (by simp only [execOp, x1]; simp [go_sem]) ⟨_, rfl, rfl, Ext.refl _⟩
    · refine duty_free rfl fun a w' hE hF hA => ?_
      have x1 := hA.val 6 19 rfl rfl ⟨⟨6, .data⟩, by simp, rfl, rfl⟩ rfl
      exact wp_value (ex_cell rfl _ _ x1 ((hE.cell (World.block_lt_of_cell? _ _ hb)).trans hb) rfl Tryz.underlying149) ⟨_, rfl, rfl, Ext.refl _⟩
    · refine duty_free rfl fun a w' hE hF hA => ?_
      have x1 := hA.val 3 16 rfl rfl ⟨⟨3, .data⟩, by simp, rfl, rfl⟩ rfl
      have x2 := hA.val 7 20 rfl rfl ⟨⟨7, .data⟩, by simp, rfl, rfl⟩ rfl
      refine wp_enter (ex_call rfl (enters_f Tryz.func128 (by kernel_rfl) rfl)) (by simp only [List.map_toArray, List.map_cons, List.map_nil, x1, x2]; exact mapsEqual_nil bm w' (HB1.out.ext hE).2) ?_
      rintro e w4 ⟨rfl, hb⟩
      exact ⟨_, rfl, _, rfl, rfl, hb⟩
    · refine duty_free rfl fun a w' hE hF hA => ?_
      have x1 := hA.val 8 21 rfl rfl ⟨⟨8, .data⟩, by simp, rfl, rfl⟩ rfl
      exact wp_value (w' := w') (ex_assign rfl) ⟨_, rfl, by rw [x1]; rfl, Ext.refl _⟩
  case rest =>
    intro W8 hE8
    have HFIN : Hid (Ext w W8) := HE1.out.trans hE8
    clear hE8 HB1 HE1 hn hb
    simp only [filled, List.zip_cons_cons, List.zip_nil_left, List.foldl_cons, List.foldl_nil, Act.put, List.setIfInBounds_toArray, List.set_cons_succ, List.set_cons_zero]
    simp only [Exit.inBlock, Exit.then, Act.put]
    rename_i hK
    refine hK _ _ ?_
    clear hK
    go_wp2
    go_ret
    exact ⟨rfl, HFIN.out⟩
end Go.Proofs.YtamolbegmkngdaaGreatDoor
