/- The walk of arborlaw10's live. The law QuotaTexts, walked. What the row QuotaTexts lists, read; its arguments opened. -/
import Derived.Test.YthinpbdbhijbgaaGreatDoorJQuotaTexts7
import Derived.Test.YthinpbdbhijbgaaGreatDoorJQuotaTexts9
import Derived.Lib.SlBytesConst
import Derived.Test.YthinpbdbhijbgaaGreatDoorJQuotaTexts6
import Derived.Test.YthinpbdbhijbgaaGreatDoorRows
import Derived.Test.YthinpbdbhijbgaaGreatDoorTie
import Derived.Test.YthinpbdbhijbgaaGreatDoorCards
import Derived.Test.YthinpbdbhijbgaaGreatDoorJQuotaTexts2
import Derived.Test.YthinpbdbhijbgaaGreatDoorJQuotaTexts4
import Derived.Lib.LaidTab
import Derived.LaidLaws
import Derived.ProofKit
import Derived.LaidMore
import Derived.OpenShut
import Derived.Deep.DeepHandedRow
import Derived.Lib.LaidU8
import GoSem.PinnedTables
import Derived.Lay
import Derived.SevenTiedAt
namespace Go.Proofs.YthinpbdbhijbgaaGreatDoor
open Go.RowKit Go.Sort
set_option maxHeartbeats 8000000
set_option maxRecDepth 100000

def liveA : Nd := ⟨⟨#[47, 97]⟩, [120, 121], [], 0, 0, 0, 0, 0, 0, 0, 0, 0, 0, 0, true, 3, 10⟩
def liveB : Nd := ⟨⟨#[47, 97, 47, 98]⟩, [49, 50, 51], [], 0, 0, 0, 0, 0, 0, 0, 0, 0, 0, 0, false, 0, 0⟩
def liveL : List Nd := [rootN, liveA, liveB]
def liveM : List (Key × Nd) := [(keyN rootN, rootN), (keyN liveA, liveA), (keyN liveB, liveB)]
theorem live_from : fromN liveL = .ok liveM := by kernel_rfl
theorem live_right : ∀ n ∈ liveL, rightN n = 0 := by
  have h : (liveL.all fun n => rightN n == 0) = true := by decide +kernel
  exact fun n hn => by simpa using List.all_eq_true.1 h n hn
theorem live_over : overL liveM ⟨#[47, 97, 47, 98, 47, 99]⟩ = [liveA] := by kernel_rfl
theorem live_first : (overL liveM ⟨#[47, 97, 47, 99]⟩).find? (overB liveM 1 6) = some liveA := by kernel_rfl
theorem live_none : (overL liveM ⟨#[47, 97, 47, 99]⟩).find? (overB liveM 1 5) = none := by kernel_rfl
theorem live_used : mget (usedL liveM) (⟨#[47, 97]⟩ : ByteArray).data.toList = some (.agg #[.int .i64 2, .int .i64 5]) := by kernel_rfl
theorem live_clo : Clo liveM := by
  intro x hx h1
  unfold liveM at hx ⊢
  simp only [List.mem_cons, List.not_mem_nil, or_false] at hx ⊢
  rcases hx with rfl | rfl | rfl
  · exact absurd (by decide +kernel) h1
  · exact ⟨_, .inl rfl, by apply ba_ext; decide +kernel⟩
  · exact ⟨_, .inr (.inl rfl), by apply ba_ext; decide +kernel⟩

def liveRow (g : Nat) (va vb : Option Addr) (vc vd : Nat) : List Value :=
  (ndC rootN (.slice va 0 vc) (.slice vb 1 vd)).toList ++ ((ndC liveA (.slice (some ⟨g, 0, none⟩) 2 2) (.slice none 0 0)).toList ++ (ndC liveB (.slice (some ⟨g + 1, 0, none⟩) 3 3) (.slice none 0 0)).toList)
theorem row3_at {a b c : List Value} (ha : a.length = 17) (hb : b.length = 17) : (∀ j u, a[j]? = some u → (a ++ (b ++ c))[0 + 0 * 17 + j]? = some u) ∧ (∀ j u, b[j]? = some u → (a ++ (b ++ c))[0 + 1 * 17 + j]? = some u) ∧ ∀ j u, c[j]? = some u → (a ++ (b ++ c))[0 + 2 * 17 + j]? = some u := by
  refine ⟨fun j u h => ?_, fun j u h => ?_, fun j u h => ?_⟩
  · have := (List.getElem?_eq_some_iff.1 h).1
    rw [List.getElem?_append_left (by omega), show 0 + 0 * 17 + j = j by omega]; exact h
  · have := (List.getElem?_eq_some_iff.1 h).1
    rw [List.getElem?_append_right (by omega), List.getElem?_append_left (by omega), show 0 + 1 * 17 + j - a.length = j by omega]; exact h
  · rw [List.getElem?_append_right (by omega), List.getElem?_append_right (by omega), show 0 + 2 * 17 + j - a.length - b.length = j by omega]; exact h

theorem live_nds (W1 : World) (va vb : Option Addr) (vc vd : Nat) (h1 : Cells W1.heap.size W1 va (rootN.data.map u8v)) (h2 : Cells W1.heap.size W1 vb (acCs rootN.acl)) (Wc : World)
    (hWc : ((W1.alloc (.cells #[.int .u8 120, .int .u8 121] 5 (2, 3))).alloc (.cells #[.int .u8 49, .int .u8 50, .int .u8 51] 5 (3, 4))).alloc (.cells (liveRow W1.heap.size va vb vc vd).toArray 44) = Wc) :
    NdsAt Wc.heap.size Wc (some ⟨W1.heap.size + 1 + 1, 0, none⟩) liveL ∧ Ext W1 Wc := by
  obtain ⟨Wa, hWa⟩ : ∃ Wa, Wa = W1.alloc (.cells #[.int .u8 120, .int .u8 121] 5 (2, 3)) := ⟨_, rfl⟩
  obtain ⟨Wb, hWb⟩ : ∃ Wb, Wb = Wa.alloc (.cells #[.int .u8 49, .int .u8 50, .int .u8 51] 5 (3, 4)) := ⟨_, rfl⟩
  rw [← hWa, ← hWb] at hWc
  have hza : Wa.heap.size = W1.heap.size + 1 := by rw [hWa]; simp
  have hzb : Wb.heap.size = W1.heap.size + 1 + 1 := by rw [hWb]; simp [hza]
  have hzc : Wc.heap.size = W1.heap.size + 1 + 1 + 1 := by rw [← hWc]; simp [hzb]
  have hE : Ext Wb Wc := by rw [← hWc]; exact Ext.alloc _ _
  have hEb : Ext Wa Wb := by rw [hWb]; exact Ext.alloc _ _
  have hEa : Ext W1 Wa := by rw [hWa]; exact Ext.alloc _ _
  have hE1 : Ext W1 Wc := hEa.trans (hEb.trans hE)
  have ga : Wc.heap[W1.heap.size]? = some (.cells #[.int .u8 120, .int .u8 121] 5 (2, 3)) := ((hEb.trans hE).block W1.heap.size (by omega)).trans (by rw [hWa]; exact heap_alloc_new W1 _)
  have gb : Wc.heap[W1.heap.size + 1]? = some (.cells #[.int .u8 49, .int .u8 50, .int .u8 51] 5 (3, 4)) := (hE.block (W1.heap.size + 1) (by omega)).trans (by rw [hWb, ← hza]; exact heap_alloc_new Wa _)
  have gc : Wc.heap[W1.heap.size + 1 + 1]? = some (.cells (liveRow W1.heap.size va vb vc vd).toArray 44 (0, 0)) := by rw [← hWc, ← hzb]; exact heap_alloc_new Wb _
  have cA : Cells Wc.heap.size Wc (some ⟨W1.heap.size, 0, none⟩) (liveA.data.map u8v) := fun j u hj => ⟨_, 0, rfl, by omega, by rw [Nat.zero_add, cell_of_row _ _ _ _ _ _ ga, ← Array.getElem?_toList]; exact hj⟩
  have cB : Cells Wc.heap.size Wc (some ⟨W1.heap.size + 1, 0, none⟩) (liveB.data.map u8v) := fun j u hj => ⟨_, 0, rfl, by omega, by rw [Nat.zero_add, cell_of_row _ _ _ _ _ _ gb, ← Array.getElem?_toList]; exact hj⟩
  obtain ⟨r0, r1, r2⟩ := row3_at (a := (ndC rootN (.slice va 0 vc) (.slice vb 1 vd)).toList) (b := (ndC liveA (.slice (some ⟨W1.heap.size, 0, none⟩) 2 2) (.slice none 0 0)).toList) (c := (ndC liveB (.slice (some ⟨W1.heap.size + 1, 0, none⟩) 3 3) (.slice none 0 0)).toList) rfl rfl
  refine ⟨fun i n hi => ?_, hE1⟩
  match i, hi with
  | 0, hi =>
    obtain rfl : rootN = n := Option.some.inj hi
    refine ⟨_, 0, .agg (ndC rootN (.slice va 0 vc) (.slice vb 1 vd)), rfl, by omega, ⟨va, vc, vb, vd, rfl, h1.ext hE1, h2.ext hE1⟩, fun j u hj => ?_⟩
    rw [cell_of_row _ _ _ _ _ _ gc, List.getElem?_toArray]
    exact r0 j u (by rw [Array.getElem?_toList]; exact hj)
  | 1, hi =>
    obtain rfl : liveA = n := Option.some.inj hi
    refine ⟨_, 0, .agg (ndC liveA (.slice (some ⟨W1.heap.size, 0, none⟩) 2 2) (.slice none 0 0)), rfl, by omega, ⟨_, 2, none, 0, rfl, cA, Cells.nil _ _ _⟩, fun j u hj => ?_⟩
    rw [cell_of_row _ _ _ _ _ _ gc, List.getElem?_toArray]
    exact r1 j u (by rw [Array.getElem?_toList]; exact hj)
  | 2, hi =>
    obtain rfl : liveB = n := Option.some.inj hi
    refine ⟨_, 0, .agg (ndC liveB (.slice (some ⟨W1.heap.size + 1, 0, none⟩) 3 3) (.slice none 0 0)), rfl, by omega, ⟨_, 3, none, 0, rfl, cB, Cells.nil _ _ _⟩, fun j u hj => ?_⟩
    rw [cell_of_row _ _ _ _ _ _ gc, List.getElem?_toArray]
    exact r2 j u (by rw [Array.getElem?_toList]; exact hj)
  | i + 3, hi => simp [liveL] at hi

theorem live10_any (w : World) (hT : Tabs w) : Calls Tryz.prog 11 #[] w fun e w' => e = .returned (.bool true) ∧ Ext w w' := by
  have hsz := hT.size
  have C1 := Lib.hid (rroot_any w)
  have HT := Lib.hid hT
  clear hT
  go_enter Tryz.func11, Tryz.ntmps11
  go_wp2_with fail
  refine C1.out.mono ?_
  rintro e W1 ⟨v, rfl, hN, hE1⟩
  obtain ⟨va, vc, vb, vd, rfl, h1, h2⟩ := hN
  have hE1 : Ext w W1 := hE1
  have hcv1 := Lib.run_convert_bytes_const (P := Tryz.prog) W1 41 5 #[.int .u8 120, .int .u8 121] 2 2 Tryz.underlying41 Tryz.underlying5
  have hcv2 := Lib.run_convert_bytes_const (P := Tryz.prog) (W1.alloc (.cells #[.int .u8 120, .int .u8 121] 5 (2, 3))) 41 5 #[.int .u8 49, .int .u8 50, .int .u8 51] 3 3 Tryz.underlying41 Tryz.underlying5
  rw [World.size_alloc] at hcv2
  simp only [List.size_toArray, List.length_cons, List.length_nil] at hcv1 hcv2
  simp only [Nat.zero_add, Nat.reduceAdd] at hcv1 hcv2
  obtain ⟨Wc, hWc⟩ : ∃ Wc, ((W1.alloc (.cells #[.int .u8 120, .int .u8 121] 5 (2, 3))).alloc (.cells #[.int .u8 49, .int .u8 50, .int .u8 51] 5 (3, 4))).alloc (.cells (liveRow W1.heap.size va vb vc vd).toArray 44) = Wc := ⟨_, rfl⟩
  obtain ⟨hnd, hEc⟩ := live_nds W1 va vb vc vd (h1.cells fun b hb => hb.2) (h2.cells fun b hb => hb.2) Wc hWc
  have hEw := hE1.trans hEc
  have C2 := from_any liveL (some ⟨W1.heap.size + 1 + 1, 0, none⟩) 3 Wc (HT.out.below hEw hsz) hnd (fun n hn => (right_fit (live_right n hn)).1) (by decide)
  have C2 : Calls Tryz.prog 51 #[.slice (some ⟨W1.heap.size + 1 + 1, 0, none⟩) 3 3] Wc (FromOut liveL Wc) := C2
  have C2 := Lib.hid C2
  have HWC := Lib.hid (show ((W1.alloc (.cells #[.int .u8 120, .int .u8 121] 5 (2, 3))).alloc (.cells #[.int .u8 49, .int .u8 50, .int .u8 51] 5 (3, 4))).alloc (.cells #[.string ⟨#[47]⟩, .slice va 0 vc, .slice vb 1 vd, .int .i64 0, .int .i64 0, .int .i64 0, .int .i64 0, .int .i64 0, .int .i64 0, .int .i64 0, .int .i64 0, .int .i32 0, .int .i32 0, .int .i32 0, .bool false, .int .i64 0, .int .i64 0,
    .string ⟨#[47, 97]⟩, .slice (some ⟨W1.heap.size, 0, none⟩) 2 2, .slice none 0 0, .int .i64 0, .int .i64 0, .int .i64 0, .int .i64 0, .int .i64 0, .int .i64 0, .int .i64 0, .int .i64 0, .int .i32 0, .int .i32 0, .int .i32 0, .bool true, .int .i64 3, .int .i64 10,
    .string ⟨#[47, 97, 47, 98]⟩, .slice (some ⟨W1.heap.size + 1, 0, none⟩) 3 3, .slice none 0 0, .int .i64 0, .int .i64 0, .int .i64 0, .int .i64 0, .int .i64 0, .int .i64 0, .int .i64 0, .int .i64 0, .int .i32 0, .int .i32 0, .int .i32 0, .bool false, .int .i64 0, .int .i64 0] 44) = Wc from hWc)
  have HEw := Lib.hid hEw
  unfold ndC rootN newN rootP
  clear C1 hE1 hEc hnd hWc h1 h2 hEw
  go_wp2_with fail
  rw [HWC.out]
  refine C2.out.mono ?_
  intro e W2 hout
  unfold FromOut at hout
  rw [live_from] at hout
  obtain ⟨bt, rfl, hT2, hE2⟩ := hout
  have hE2 : Ext Wc W2 := hE2
  have hok := hT2.ok
  have CN := Lib.hid (no10_any 0 W2)
  have hG := GetsM.of_tree hT2
  have hWe := WeighsM.of_tree hT2 live_clo (by decide)
  have CE6 := Lib.hid (show Calls Tryz.prog 60 #[.pointer (some ⟨bt, 0, none⟩), .string ⟨#[47, 97, 47, 99]⟩, .int .i64 1, .int .i64 6] W2 (fun e w' => e = .returned (.tuple #[.string ⟨#[47, 97]⟩, .bool true]) ∧ Ext W2 w') by
    have := qExceeds_any _ ⟨_, rfl⟩ liveM W2 hok hG hWe ⟨#[47, 97, 47, 99]⟩ (by decide) 1 6
    unfold ExcOut at this
    rw [live_first] at this
    exact this)
  have CE5 := Lib.hid fun W (h : Ext W2 W) => (show Calls Tryz.prog 60 #[.pointer (some ⟨bt, 0, none⟩), .string ⟨#[47, 97, 47, 99]⟩, .int .i64 1, .int .i64 5] W (fun e w' => e = .returned (.tuple #[.string ⟨#[]⟩, .bool false]) ∧ Ext W w') by
    have := qExceeds_any _ ⟨_, rfl⟩ liveM W hok (fun W' t h1 h2 => hG W' t (h.trans h1) h2) (fun W' n h1 h2 => hWe W' n (h.trans h1) h2) ⟨#[47, 97, 47, 99]⟩ (by decide) 1 5
    unfold ExcOut at this
    rw [live_none] at this
    exact this)
  have CB := Lib.hid fun W (h : Ext W2 W) => qbegin_any _ ⟨_, rfl⟩ liveM W hok (fun ga hga => AllsM.of_tree (hT2.ext h) (by decide) ga hga) (fun W' n h1 h2 => hWe W' n (h.trans h1) h2) (by decide)
  have CO := Lib.hid fun W (h : Ext W2 W) => (qOver_any _ liveM W hok (fun W' t h1 h2 => hG W' t (h.trans h1) h2) ⟨#[47, 97, 47, 98, 47, 99]⟩ (by decide)).mono fun e w' h => texts_out h
  have HE2 := Lib.hid (HEw.out.trans hE2)
  clear C2 hE2 HWC hcv1 hcv2 hG hWe hT2 hok
  go_wp2_with fail
  refine CN.out.mono ?_
  rintro e W3 ⟨rfl, rfl⟩
  clear CN
  go_wp2_with fail
  refine CE6.out.mono ?_
  rintro e W4 ⟨rfl, hE4⟩
  have HE4 := Lib.hid hE4
  have CE5 := Lib.hid (CE5.out W4 hE4)
  clear CE6 hE4
  go_wp2_with fail
  refine CE5.out.mono ?_
  rintro e W5 ⟨rfl, hE5⟩
  have HE5 := Lib.hid (HE4.out.trans hE5)
  have CB := Lib.hid (CB.out W5 (HE4.out.trans hE5))
  clear CE5 hE5
  go_wp2_with fail
  refine CB.out.mono ?_
  rintro e W6 ⟨bb, bm, rfl, hbk, _, _, hE6⟩
  have hE6 : Ext W5 W6 := hE6
  have CU := qused_any W6 bb bm (usedL liveM) hbk (usedP_pairs _ _) ⟨#[47, 97]⟩ (by unfold maxLen; decide)
  unfold usedAt at CU
  rw [live_used] at CU
  have CU := Lib.hid CU
  have HE6 := Lib.hid (HE5.out.trans hE6)
  clear CB hE6 hbk
  go_wp2_with fail
  refine CU.out.mono ?_
  rintro e W7 ⟨rfl, hE7⟩
  have hE7 : Ext W6 W7 := hE7
  obtain ⟨X7, hX7⟩ : ∃ X7, X7 = W7.alloc (.cells #[.int .i64 2, .int .i64 5] 107) := ⟨_, rfl⟩
  have HSET := Lib.hid ((setRow_alloc W7 zeroUsed #[.int .i64 2, .int .i64 5] 107).trans hX7.symm)
  have HNEW := Lib.hid (heap_alloc_new W7 (.cells zeroUsed 107))
  have hEX : Ext W7 X7 := by rw [hX7]; exact Ext.alloc _ _
  have hb7 : X7.heap[W7.heap.size]? = some (.cells #[.int .i64 2, .int .i64 5] 107 (0, 0)) := by rw [hX7]; exact heap_alloc_new W7 _
  have u0 : X7.cell? ⟨W7.heap.size, 0, none⟩ = some (.int .i64 2) := cell_of_row _ _ _ _ _ _ hb7
  have u1 : X7.cell? ⟨W7.heap.size, 1, none⟩ = some (.int .i64 5) := cell_of_row _ _ _ _ _ _ hb7
  have hEa := HE6.out.trans (hE7.trans hEX)
  have CO := Lib.hid (CO.out X7 hEa)
  have HE7 := Lib.hid hEa
  unfold zeroUsed at HSET HNEW
  clear CU hE7 hX7 hEX hb7 hEa
  go_wp2_with (refine wpList_store_row rfl 107 (.tmp 9) (.tmp 47) rfl W7.heap.size _ rfl rfl 107 _ HNEW.out sizeUsed rfl (by simp [Value.oneCell']) ?_; rw [HSET.out])
  refine CO.out.mono ?_
  rw [live_over]
  rintro e W8 ⟨oa, oc, rfl, hst, hE8⟩
  have hE8 : Ext X7 W8 := hE8
  have hEal : Ext W8 (W8.alloc (.cells #[.string ⟨#[47, 97]⟩] 9)) := Ext.alloc _ _
  have hs1 : StrsAt (W8.alloc (.cells #[.string ⟨#[47, 97]⟩] 9)).heap.size (W8.alloc (.cells #[.string ⟨#[47, 97]⟩] 9)) (some ⟨W8.heap.size, 0, none⟩) [liveA.path] := fun i s hi => by
    refine ⟨_, 0, rfl, by simp, ?_⟩
    rw [Nat.zero_add, cell_of_row _ _ _ _ _ _ (heap_alloc_new W8 _)]
    match i, hi with
    | 0, hi => cases hi; rfl
    | i + 1, hi => simp at hi
  have CT := sameTexts_self [liveA.path] oa (some ⟨W8.heap.size, 0, none⟩) oc 1 (W8.alloc (.cells #[.string ⟨#[47, 97]⟩] 9)) (hst.ext hEal) hs1 (by decide)
  have CT : Calls Tryz.prog 62 #[.slice oa 1 oc, .slice (some ⟨W8.heap.size, 0, none⟩) 1 1] (W8.alloc (.cells #[.string ⟨#[47, 97]⟩] 9)) fun e w' => e = .returned (.bool true) ∧ Ext (W8.alloc (.cells #[.string ⟨#[47, 97]⟩] 9)) w' := CT
  have CT := Lib.hid CT
  have HE8 := Lib.hid ((HE7.out.trans hE8).trans hEal)
  clear CO hE8 hEal hs1 hst u0 u1 HSET HNEW
  simp only [List.map_cons, List.map_nil, List.length_cons, List.length_nil, Nat.zero_add]
  go_wp2_with fail
  refine CT.out.mono ?_
  rintro e W9 ⟨rfl, hE9⟩
  have HFIN : Hid (Ext w W9) := HE2.out.trans (HE8.out.trans hE9)
  clear CT hE9
  go_wp2
  go_ret
  exact ⟨rfl, HFIN.out⟩
end Go.Proofs.YthinpbdbhijbgaaGreatDoor
namespace Go.Proofs.YthinpbdbhijbgaaGreatDoor
open Go.RowKit Go.Lib
set_option maxHeartbeats 4000000
set_option maxRecDepth 100000

theorem textV_ex (h : Bool) (c b : Int) : ∃ (tx : ByteArray) (er : Int), textV h c b = .tuple #[.string tx, .int .i64 er] ∧ ((er = 0 ∧ h = true ∧ -1 ≤ c ∧ -1 ≤ b ∧ tx = ⟨(quoT c b).toArray⟩) ∨ er = 1) := by
  unfold textV
  split
  · rename_i hg
    exact ⟨_, _, rfl, .inl ⟨rfl, hg.1, hg.2.1, hg.2.2, rfl⟩⟩
  · exact ⟨_, _, rfl, .inr rfl⟩
theorem quoB_len {c b : Int} (h1 : -1 ≤ c ∧ c ≤ 9223372036854775807) (h2 : -1 ≤ b ∧ b ≤ 9223372036854775807) : (quoT c b).length ≤ 51 := by
  have l1 := itoaB_len h1.1 h1.2
  have l2 := itoaB_len h2.1 h2.2
  have e1 : (itoaB c).size = (itoa c).length := List.size_toArray
  have e2 : (itoaB b).size = (itoa b).length := List.size_toArray
  unfold quoT countT bytesT
  simp only [List.length_append, List.length_cons, List.length_nil]
  omega
theorem ext_setRow {w W : World} {r : Nat} {cs : Array Value} (hE : Ext w W) (hr : w.heap.size ≤ r) : Ext w (W.setRow r cs) :=
  hE.trans' ⟨rfl, rfl, rfl, by simp [World.setRow], fun k hk => setRow_other _ _ _ _ (by omega)⟩

theorem txt_walk (h : Bool) (c b : Int) (s : ByteArray) (w : World) (hc : -9223372036854775808 ≤ c ∧ c ≤ 9223372036854775807) (hb : -9223372036854775808 ≤ b ∧ b ≤ 9223372036854775807) (hs : s.size ≤ 4294967280) (hT : TxtW w) (hU : Tabs w) :
    Calls Tryz.prog 3 #[.agg #[.bool h, .int .i64 c, .int .i64 b], .string s] w fun e w' => e = .returned (.bool true) ∧ Ext w w' := by
  obtain ⟨tx, er, htv, hcase⟩ := textV_ex h c b
  have ct := fun W (hW : TabQ W) => qquoText_any h c b W hc hb hW
  have cr := fun W (hW : TabQ W) => rquoText_any h c b W hc hb hW
  unfold TextOut at ct cr
  rw [htv] at ct cr
  have CT := Lib.hid ct
  have CR := Lib.hid cr
  have QP := Lib.hid (fun W (hW : TxtW W) => qparse_any s W hs hW)
  have RP := Lib.hid (fun W => rparse_any s W hs)
  rw [← parse_same] at RP
  unfold ParOut at RP
  have HNQ := neq_q
  have HT := Lib.hid hT
  have HU := Lib.hid hU
  have HC := Lib.hid hcase
  obtain ⟨W1, hW1⟩ : ∃ W1, W1 = w.alloc (.cells #[.bool h, .int .i64 c, .int .i64 b] 23) := ⟨_, rfl⟩
  have HE1 := Lib.hid (show Ext w W1 by rw [hW1]; exact Ext.alloc _ _)
  have HR1 := Lib.hid (show W1.heap[w.heap.size]? = some (.cells #[.bool h, .int .i64 c, .int .i64 b] 23 (0, 0)) by rw [hW1]; exact heap_alloc_new w _)
  have hz1 : w.heap.size < W1.heap.size := by rw [hW1]; simp
  have hpo : ∀ c' b', parseP s.data.toList = some (c', b') → s.data.toList = quoT c' b' ∧ (-1 ≤ c' ∧ c' ≤ 9223372036854775807) ∧ (-1 ≤ b' ∧ b' ≤ 9223372036854775807) := fun c' b' he => (parseP_iff _ _ _).1 he
  have HPO := Lib.hid hpo
  generalize parseP s.data.toList = o at *
  clear hT hU hcase ct cr htv hpo
  go_enter Tryz.func3, Tryz.ntmps3
  go_wp2_with (refine wpList_load_row rfl 23 (.tmp 2) rfl w.heap.size rfl 23 _ (0, 0) _ (hW1 ▸ HR1.out) Tryz.underlying23 rfl sizeQuo ?_)
  rw [← hW1]
  refine (CT.out W1 (HT.out.ext HE1.out).tab).mono ?_
  rintro e W2 ⟨rfl, hE2⟩
  have HE2 := Lib.hid (HE1.out.trans hE2)
  have HR2 := Lib.hid ((hE2.block _ hz1).trans HR1.out)
  have hz2 := Nat.lt_of_lt_of_le hz1 hE2.size
  clear hW1 CT hE2 HE1 HR1
  go_wp2_with (refine wpList_load_row rfl 23 (.tmp 2) rfl w.heap.size rfl 23 _ (0, 0) _ HR2.out Tryz.underlying23 rfl sizeQuo ?_)
  refine (CR.out W2 (HT.out.ext HE2.out).tab).mono ?_
  rintro e W3 ⟨rfl, hE3⟩
  have HE3 := Lib.hid (HE2.out.trans hE3)
  have HR3 := Lib.hid ((hE3.block _ hz2).trans HR2.out)
  have hz3 := Nat.lt_of_lt_of_le hz2 hE3.size
  clear CR hE3 HE2 HR2
  go_wp2_with fail
  refine (no10_any er W3).mono ?_
  rintro e W3' ⟨rfl, rfl⟩
  go_wp2_with fail
  refine (live10_any W3 (HU.out.below HE3.out HU.out.size)).mono ?_
  rintro e W4 ⟨rfl, hE4⟩
  have HE4 := Lib.hid (HE3.out.trans hE4)
  have HR4 := Lib.hid ((hE4.block _ hz3).trans HR3.out)
  have hz4 := Nat.lt_of_lt_of_le hz3 hE4.size
  clear hE4 HE3 HR3 HU
  go_wp2_with fail
  refine (QP.out W4 (HT.out.ext HE4.out)).mono ?_
  rintro e W5 ⟨rfl, hE5⟩
  have HE5 := Lib.hid (HE4.out.trans hE5)
  have HR5 := Lib.hid ((hE5.block _ hz4).trans HR4.out)
  have hz5 := Nat.lt_of_lt_of_le hz4 hE5.size
  clear hE5 HE4 HR4 QP
  obtain ⟨h', c', b', hq⟩ : ∃ (h' : Bool) (c' b' : Int), quoC o = #[.bool h', .int .i64 c', .int .i64 b'] := by
    cases o with
    | none => exact ⟨_, _, _, rfl⟩
    | some x => obtain ⟨x, y⟩ := x; exact ⟨_, _, _, rfl⟩
  rw [hq] at RP ⊢
  have HQ := Lib.hid hq
  have hei : ∃ ei : Int, quoE o = ei := ⟨_, rfl⟩
  obtain ⟨ei, hei⟩ := hei
  rw [hei] at RP ⊢
  have HEI := Lib.hid hei
  clear hq hei
  have HA := Lib.hid (heap_alloc_new W5 (.cells zeroQuo 23))
  have HAS := Lib.hid (fun cs => setRow_alloc W5 zeroQuo cs 23)
  obtain ⟨W6, hW6⟩ : ∃ W6, W6 = W5.alloc (.cells #[.bool h', .int .i64 c', .int .i64 b'] 23) := ⟨_, rfl⟩
  have hE6 : Ext W5 W6 := by rw [hW6]; exact Ext.alloc _ _
  have HQ6 := Lib.hid (show W6.heap[W5.heap.size]? = some (.cells #[.bool h', .int .i64 c', .int .i64 b'] 23 (0, 0)) by rw [hW6]; exact heap_alloc_new W5 _)
  have hy6 : W5.heap.size < W6.heap.size := by rw [hW6]; simp
  have HE6 := Lib.hid (HE5.out.trans hE6)
  have HR6 := Lib.hid ((hE6.block _ hz5).trans HR5.out)
  have HW6 := Lib.hid hW6
  clear hE6 HE5 HR5 hW6
  unfold zeroQuo at HA HAS
  go_wp2_with (refine wpList_store_row rfl 23 (.tmp 9) (.tmp 38) rfl W5.heap.size _ rfl rfl 23 _ HA.out sizeQuo rfl (by simp [Value.oneCell']) ?_; rw [HAS.out])
  rw [← HW6.out]
  refine (RP.out W6).mono ?_
  rintro e W7 ⟨rfl, hE7⟩
  have HE7 := Lib.hid (HE6.out.trans hE7)
  have HR7 := Lib.hid ((hE7.block _ (Nat.lt_trans hz5 hy6)).trans HR6.out)
  have HQ7 := Lib.hid ((hE7.block _ hy6).trans HQ6.out)
  have hy7 := Nat.lt_of_lt_of_le hy6 hE7.size
  clear hE7 HE6 HR6 HQ6 HA HAS HW6 RP
  have HB := Lib.hid (heap_alloc_new W7 (.cells zeroQuo 23))
  have HBS := Lib.hid (fun cs => setRow_alloc W7 zeroQuo cs 23)
  obtain ⟨W8, hW8⟩ : ∃ W8, W8 = W7.alloc (.cells #[.bool h', .int .i64 c', .int .i64 b'] 23) := ⟨_, rfl⟩
  have hE8 : Ext W7 W8 := by rw [hW8]; exact Ext.alloc _ _
  have HP8 := Lib.hid (show W8.heap[W7.heap.size]? = some (.cells #[.bool h', .int .i64 c', .int .i64 b'] 23 (0, 0)) by rw [hW8]; exact heap_alloc_new W7 _)
  have hx8 : W7.heap.size < W8.heap.size := by rw [hW8]; simp
  have HE8 := Lib.hid (HE7.out.trans hE8)
  have hzw : w.heap.size < W5.heap.size := hz5
  have HR8 := Lib.hid ((hE8.block _ (Nat.lt_trans hz5 hy7)).trans HR7.out)
  have HQ8 := Lib.hid ((hE8.block _ hy7).trans HQ7.out)
  have HW8 := Lib.hid hW8
  clear hE8 HE7 HR7 HQ7 hW8
  unfold zeroQuo at HB HBS
  have hqq : eqQ h' c' b' h' c' b' = true := by simp [eqQ]
  have HQP2 := Lib.hid (fun (c b : Int) (h1 : -1 ≤ c ∧ c ≤ 9223372036854775807) (h2 : -1 ≤ b ∧ b ≤ 9223372036854775807) W hW => qparse_any ⟨(quoT c b).toArray⟩ W (by show (quoT c b).toArray.size ≤ _; rw [List.size_toArray]; have := quoB_len h1 h2; omega) hW)
  unfold ParOut at HQP2
  go_wp2_with (first | (refine wpList_store_row rfl 23 (.tmp 10) (.tmp 43) rfl W7.heap.size _ rfl rfl 23 _ HB.out sizeQuo rfl (by simp [Value.oneCell']) ?_; rw [HBS.out, ← HW8.out]) | (refine wpList_load_row rfl 23 (.tmp 9) rfl W5.heap.size rfl 23 _ (0, 0) _ HQ8.out Tryz.underlying23 rfl sizeQuo ?_) | (refine wpList_load_row rfl 23 (.tmp 10) rfl W7.heap.size rfl 23 _ (0, 0) _ HP8.out Tryz.underlying23 rfl sizeQuo ?_))
  refine (no10_any ei W8).mono ?_
  rintro e W8' ⟨rfl, rfl⟩
  clear HB HBS HW8
  rcases o with _ | ⟨c2, b2⟩
  · obtain rfl : ei = 1 := HEI.out.symm
    rcases HC.out with ⟨rfl, rfl, h1, h2, rfl⟩ | rfl
    · have hpp := (parseP_iff (quoT c b) c b).2 ⟨rfl, ⟨h1, hc.2⟩, h2, hb.2⟩
      have hq2 := HQP2.out c b ⟨h1, hc.2⟩ ⟨h2, hb.2⟩ W8 (HT.out.ext HE8.out)
      rw [show parseP (⟨(quoT c b).toArray⟩ : ByteArray).data.toList = some (c, b) from hpp] at hq2
      have HQ2 := Lib.hid hq2
      clear hpp hq2 HQP2
      go_wp2_with fail
      refine HQ2.out.mono ?_
      rintro e W9 ⟨rfl, hE9⟩
      have HQ9 := Lib.hid ((hE9.block _ (Nat.lt_trans hy7 hx8)).trans HQ8.out)
      have hqr := setRow_heap W9 W5.heap.size _ #[.bool true, .int .i64 c, .int .i64 b] 23 (0, 0) HQ9.out
      have hrr := (setRow_other W9 W5.heap.size w.heap.size #[.bool true, .int .i64 c, .int .i64 b] (by omega)).trans ((hE9.block _ (Nat.lt_trans (Nat.lt_trans hz5 hy7) hx8)).trans HR8.out)
      have hpr := (setRow_other W9 W5.heap.size W7.heap.size #[.bool true, .int .i64 c, .int .i64 b] (by omega)).trans ((hE9.block _ hx8).trans HP8.out)
      have hE10 := ext_setRow (r := W5.heap.size) (cs := #[.bool true, .int .i64 c, .int .i64 b]) (HE8.out.trans hE9) (by omega)
      obtain ⟨W10, hW10⟩ : ∃ W10, W10 = W9.setRow W5.heap.size #[.bool true, .int .i64 c, .int .i64 b] := ⟨_, rfl⟩
      rw [← hW10] at hqr hrr hpr hE10
      have HW10 := Lib.hid hW10
      have HQ10 := Lib.hid hqr
      have HR10 := Lib.hid hrr
      have HP10 := Lib.hid hpr
      have HE10 := Lib.hid hE10
      have hq3 : eqQ true c b true c b = true := by simp [eqQ]
      clear hW10 hqr hrr hpr hE10 hE9 HQ2
      simp only [quoC, quoE]
      go_wp2_with (first | (refine wpList_store_row rfl 23 (.tmp 9) (.tmp 59) rfl W5.heap.size _ rfl rfl 23 _ HQ9.out sizeQuo rfl (by simp [Value.oneCell']) ?_; rw [← HW10.out]) | (refine wpList_load_row rfl 23 (.tmp 9) rfl W5.heap.size rfl 23 _ (0, 0) _ HQ10.out Tryz.underlying23 rfl sizeQuo ?_) | (refine wpList_load_row rfl 23 (.tmp 2) rfl w.heap.size rfl 23 _ (0, 0) _ HR10.out Tryz.underlying23 rfl sizeQuo ?_))
      refine (no10_any 0 W10).mono ?_
      rintro e W10' ⟨rfl, rfl⟩
      go_wp2_with fail
      go_ret
      exact ⟨rfl, HE10.out⟩
    · go_wp2_with fail
      go_ret
      exact ⟨rfl, HE8.out⟩
  · obtain rfl : ei = 0 := HEI.out.symm
    have hqe := HQ.out
    simp only [quoC, Array.mk.injEq, List.cons.injEq, Value.bool.injEq, Value.int.injEq, true_and, and_true] at hqe
    obtain ⟨rfl, rfl, rfl⟩ := hqe
    obtain ⟨hsq, hr1, hr2⟩ := HPO.out _ _ rfl
    have htt := fun W (hW : TabQ W) => qquoText_any true c2 b2 W ⟨by omega, hr1.2⟩ ⟨by omega, hr2.2⟩ hW
    unfold TextOut at htt
    rw [show textV true c2 b2 = .tuple #[.string ⟨(quoT c2 b2).toArray⟩, .int .i64 0] from if_pos ⟨rfl, hr1.1, hr2.1⟩] at htt
    have hf : (quoT c2 b2 == s.toList) = true := by rw [ByteArray.toList_eq, hsq]; simp
    have HTT := Lib.hid htt
    clear htt hsq hr1 hr2
    generalize hgq : quoT c2 b2 = qt at HTT hf
    clear hgq
    rcases HC.out with ⟨rfl, rfl, h1, h2, rfl⟩ | rfl
    · have hpp := (parseP_iff (quoT c b) c b).2 ⟨rfl, ⟨h1, hc.2⟩, h2, hb.2⟩
      have hq2 := HQP2.out c b ⟨h1, hc.2⟩ ⟨h2, hb.2⟩ W8 (HT.out.ext HE8.out)
      rw [show parseP (⟨(quoT c b).toArray⟩ : ByteArray).data.toList = some (c, b) from hpp] at hq2
      have HQ2 := Lib.hid hq2
      clear hpp hq2 HQP2
      go_wp2_with fail
      refine HQ2.out.mono ?_
      rintro e W9 ⟨rfl, hE9⟩
      have HQ9 := Lib.hid ((hE9.block _ (Nat.lt_trans hy7 hx8)).trans HQ8.out)
      have hqr := setRow_heap W9 W5.heap.size _ #[.bool true, .int .i64 c, .int .i64 b] 23 (0, 0) HQ9.out
      have hrr := (setRow_other W9 W5.heap.size w.heap.size #[.bool true, .int .i64 c, .int .i64 b] (by omega)).trans ((hE9.block _ (Nat.lt_trans (Nat.lt_trans hz5 hy7) hx8)).trans HR8.out)
      have hpr := (setRow_other W9 W5.heap.size W7.heap.size #[.bool true, .int .i64 c, .int .i64 b] (by omega)).trans ((hE9.block _ hx8).trans HP8.out)
      have hE10 := ext_setRow (r := W5.heap.size) (cs := #[.bool true, .int .i64 c, .int .i64 b]) (HE8.out.trans hE9) (by omega)
      obtain ⟨W10, hW10⟩ : ∃ W10, W10 = W9.setRow W5.heap.size #[.bool true, .int .i64 c, .int .i64 b] := ⟨_, rfl⟩
      rw [← hW10] at hqr hrr hpr hE10
      have HW10 := Lib.hid hW10
      have HQ10 := Lib.hid hqr
      have HR10 := Lib.hid hrr
      have HP10 := Lib.hid hpr
      have HE10 := Lib.hid hE10
      have hq3 : eqQ true c b true c b = true := by simp [eqQ]
      clear hW10 hqr hrr hpr hE10 hE9 HQ2
      simp only [quoC, quoE]
      go_wp2_with (first | (refine wpList_store_row rfl 23 (.tmp 9) (.tmp 59) rfl W5.heap.size _ rfl rfl 23 _ HQ9.out sizeQuo rfl (by simp [Value.oneCell']) ?_; rw [← HW10.out]) | (refine wpList_load_row rfl 23 (.tmp 9) rfl W5.heap.size rfl 23 _ (0, 0) _ HQ10.out Tryz.underlying23 rfl sizeQuo ?_) | (refine wpList_load_row rfl 23 (.tmp 2) rfl w.heap.size rfl 23 _ (0, 0) _ HR10.out Tryz.underlying23 rfl sizeQuo ?_))
      refine (no10_any 0 W10).mono ?_
      rintro e W10' ⟨rfl, rfl⟩
      go_wp2_with (refine wpList_load_row rfl 23 (.tmp 10) rfl W7.heap.size rfl 23 _ (0, 0) _ HP10.out Tryz.underlying23 rfl sizeQuo ?_)
      refine (HTT.out W10 (HT.out.ext (HE10.out)).tab).mono ?_
      rintro e WX ⟨rfl, hEX⟩
      have HEX := Lib.hid (HE10.out.trans hEX)
      clear hEX
      go_wp2_with fail
      refine (no10_any 0 WX).mono ?_
      rintro e WX' ⟨rfl, rfl⟩
      go_wp2
      go_ret
      exact ⟨rfl, HEX.out⟩
    · go_wp2_with (refine wpList_load_row rfl 23 (.tmp 10) rfl W7.heap.size rfl 23 _ (0, 0) _ HP8.out Tryz.underlying23 rfl sizeQuo ?_)
      refine (HTT.out W8 (HT.out.ext (HE8.out)).tab).mono ?_
      rintro e WX ⟨rfl, hEX⟩
      have HEX := Lib.hid (HE8.out.trans hEX)
      clear hEX
      go_wp2_with fail
      refine (no10_any 0 WX).mono ?_
      rintro e WX' ⟨rfl, rfl⟩
      go_wp2
      go_ret
      exact ⟨rfl, HEX.out⟩
end Go.Proofs.YthinpbdbhijbgaaGreatDoor
namespace Go.Proofs.YthinpbdbhijbgaaGreatDoor
open Go.ChangeShapes Go.WideShapes Go.ChangeAt Go.RowKit Go.Lib Go.Deep
set_option maxHeartbeats 2000000
set_option maxRecDepth 100000

/-- What the row lists. -/
def laidQ : List (String × DataW Unit) := Rows.quotaTextsUptoRow.laid

theorem errCell_of_reads {w : World} {n name : String} {d : DataW Unit} {g : Nat} (h : VarReads Tryz.prog w n (.iface name d)) (hg : Tryz.prog.globalNamed n = some g) (ht : (Tryz.prog.globals[g]?).map (·.type) = some 115) : ErrCell w g := by
  obtain ⟨g', t, cs, fuel, p, hg', hty, hvar, hd⟩ := h
  obtain rfl := Option.some.inj (hg.symm.trans hg')
  obtain rfl := Option.some.inj (ht.symm.trans hty)
  have hx := iface_of_trod Tryz.underlying115 hd
  have hc := World.var?_cell hg hvar 0
  obtain ⟨_, u, v, hcs, _⟩ := hx
  rw [← Array.getElem?_toList, hcs] at hc
  exact ⟨_, hc, .inr ⟨_, _, rfl⟩⟩

section
variable {H : Type} {enc : TypeId × Value → H} {w : World} {fuel : Nat}
theorem open_quo {cs : List Value} {x : DataW H × List MemPlace} (h : DataW.trod enc Tryz.prog w 0 (fun _ => true) true fuel 23 cs = some x) :
    ∃ (hh : Bool) (c b : Int), cs = [.bool hh, .int .i64 c, .int .i64 b] ∧ (-9223372036854775808 ≤ c ∧ c ≤ 9223372036854775807) ∧ (-9223372036854775808 ≤ b ∧ b ≤ 9223372036854775807) := by
  obtain ⟨q0, q1, q2, m2, _, hl, g0, g1, g2⟩ := trod_struct3 Tryz.underlying23 h
  rw [Tryz.cells_quota] at hl
  match cs, hl with
  | [u0, u1, u2], _ =>
    simp only [Tryz.cells_bool, Tryz.cells_i64, List.drop_succ_cons, List.drop_zero, List.take_succ_cons, List.take_zero] at g0 g1 g2
    obtain ⟨bb, e0, _⟩ := DataW.trod_bool Tryz.underlying4 g0
    obtain ⟨z1, e1, _, r1⟩ := DataW.trod_int Tryz.underlying2 g1
    obtain ⟨z2, e2, _, r2⟩ := DataW.trod_int Tryz.underlying2 g2
    simp only [List.cons.injEq, and_true] at e0 e1 e2
    subst e0 e1 e2
    exact ⟨bb, z1, z2, rfl, wf_i64 r1, wf_i64 r2⟩
theorem str_bulk {s : ByteArray} {x : DataW H × List MemPlace} (h : DataW.trod enc Tryz.prog w 0 (fun _ => true) true fuel 9 [.string s] = some x) : s.size ≤ Rows.uptoBulk x.1 := by
  obtain ⟨t, et, ed, _⟩ := DataW.trod_string Tryz.underlying9 h
  cases et
  rw [show x.1 = .lit (.string s.data.toList) from congrArg Prod.fst ed]
  simp only [Rows.uptoBulk]
  have := size_len s
  omega
end
theorem tabQ_of_reads {w : World} (h : VarReads Tryz.prog w "internal/strconv.uint64pow10" (Lib.tabData .u64 Lib.pow10Tab)) : TabQ w := by
  obtain ⟨g, t, cs, fuel, p, hg, hty, hvar, hd⟩ := h
  obtain rfl := Option.some.inj ((show Tryz.prog.globalNamed "internal/strconv.uint64pow10" = some 2 by kernel_rfl).symm.trans hg)
  obtain rfl := Option.some.inj ((show (Tryz.prog.globals[2]?).map (·.type) = some 290 by kernel_rfl).symm.trans hty)
  unfold TabQ Lib.TabIs
  rw [hvar, ← cells_of_tab Tryz.underlying290 Tryz.underlying96 (by kernel_rfl) (by kernel_rfl) hd]
theorem pow10_eq : (Rows.laid_internal_strconv_uint64pow10 : DataW Unit) = Lib.tabData .u64 Lib.pow10Tab := by kernel_rfl
theorem txtw_of_laid {W : World} (h : laidMetH Tryz.prog laidQ W) (hs : W.ShapedOpen Tryz.prog) : TxtW W ∧ Tabs W := by
  rw [MakeChecks.laidMetH_plain _ _ _ (by kernel_rfl)] at h
  have hh := fun n d hm => Lib.laidMet.reads h (n := n) (d := d) hm
  unfold laidQ Rows.quotaTextsUptoRow at hh
  simp only [List.mem_cons, List.not_mem_nil, or_false, Prod.mk.injEq] at hh
  refine ⟨⟨tabQ_of_reads (pow10_eq ▸ hh _ _ (.inr (.inr (.inl ⟨rfl, rfl⟩)))), ?_, ?_, ?_⟩, tabs_of_reads (utf8First_eq ▸ hh _ _ (.inr (.inr (.inr (.inr (.inr (.inr ⟨rfl, rfl⟩))))))) (hh _ _ (.inr (.inr (.inr (.inl ⟨rfl, rfl⟩)))))⟩
  · exact Tryz.laysM145.s1_3 W hs
  · exact errCell_of_reads (hh _ _ (.inr (.inr (.inr (.inr (.inr (.inl ⟨rfl, rfl⟩))))))) (by kernel_rfl) (by kernel_rfl)
  · exact errCell_of_reads (hh _ _ (.inr (.inr (.inr (.inr (.inl ⟨rfl, rfl⟩)))))) (by kernel_rfl) (by kernel_rfl)
end Go.Proofs.YthinpbdbhijbgaaGreatDoor
