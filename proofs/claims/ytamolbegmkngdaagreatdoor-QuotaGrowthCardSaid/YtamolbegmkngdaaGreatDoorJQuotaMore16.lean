/- The walk of arborlaw10's live. The law QuotaMore, walked. -/
import Derived.Test.YtamolbegmkngdaaGreatDoorJQuotaMore15
import Derived.Test.YtamolbegmkngdaaGreatDoorJQuotaMore14
import Derived.Lib.SlBytesConst
import Derived.Test.YtamolbegmkngdaaGreatDoorJQuotaMore6
namespace Go.Proofs.YtamolbegmkngdaaGreatDoor
open Go.RowKit Go.Sort
set_option maxHeartbeats 8000000
set_option maxRecDepth 100000

def liveA : Nd := ⟨⟨#[47, 97]⟩, [120, 121], [], 0, 0, 0, 0, 0, 0, 0, 0, 0, 0, 0, true, 3, 10⟩
def liveB : Nd := ⟨⟨#[47, 97, 47, 98]⟩, [49, 50, 51], [], 0, 0, 0, 0, 0, 0, 0, 0, 0, 0, 0, false, 0, 0⟩
def liveL : List Nd := [rootN, liveA, liveB]
def liveM : List (Key × Nd) := [(keyN rootN, rootN), (keyN liveA, liveA), (keyN liveB, liveB)]
theorem live_from : fromN liveL = .ok liveM := by kernel_rfl
theorem live_right : ∀ n ∈ liveL, rightN n = 0 := by
  have h : (liveL.all fun n => rightN n == 0) = true := by decide +kernel
  exact fun n hn => by simpa using List.all_eq_true.1 h n hn
theorem live_over : overL liveM ⟨#[47, 97, 47, 98, 47, 99]⟩ = [liveA] := by kernel_rfl
theorem live_first : (overL liveM ⟨#[47, 97, 47, 99]⟩).find? (overB liveM 1 6) = some liveA := by kernel_rfl
theorem live_none : (overL liveM ⟨#[47, 97, 47, 99]⟩).find? (overB liveM 1 5) = none := by kernel_rfl
theorem live_used : mget (usedL liveM) (⟨#[47, 97]⟩ : ByteArray).data.toList = some (.agg #[.int .i64 2, .int .i64 5]) := by kernel_rfl
theorem live_clo : Clo liveM := by
  intro x hx h1
  unfold liveM at hx ⊢
  simp only [List.mem_cons, List.not_mem_nil, or_false] at hx ⊢
  rcases hx with rfl | rfl | rfl
  · exact absurd (by decide +kernel) h1
  · exact ⟨_, .inl rfl, by apply ba_ext; decide +kernel⟩
  · exact ⟨_, .inr (.inl rfl), by apply ba_ext; decide +kernel⟩

def liveRow (g : Nat) (va vb : Option Addr) (vc vd : Nat) : List Value :=
  (ndC rootN (.slice va 0 vc) (.slice vb 1 vd)).toList ++ ((ndC liveA (.slice (some ⟨g, 0, none⟩) 2 2) (.slice none 0 0)).toList ++ (ndC liveB (.slice (some ⟨g + 1, 0, none⟩) 3 3) (.slice none 0 0)).toList)
theorem row3_at {a b c : List Value} (ha : a.length = 17) (hb : b.length = 17) : (∀ j u, a[j]? = some u → (a ++ (b ++ c))[0 + 0 * 17 + j]? = some u) ∧ (∀ j u, b[j]? = some u → (a ++ (b ++ c))[0 + 1 * 17 + j]? = some u) ∧ ∀ j u, c[j]? = some u → (a ++ (b ++ c))[0 + 2 * 17 + j]? = some u := by
  refine ⟨fun j u h => ?_, fun j u h => ?_, fun j u h => ?_⟩
  · have := (List.getElem?_eq_some_iff.1 h).1
    rw [List.getElem?_append_left (by omega), show 0 + 0 * 17 + j = j by omega]; exact h
  · have := (List.getElem?_eq_some_iff.1 h).1
    rw [List.getElem?_append_right (by omega), List.getElem?_append_left (by omega), show 0 + 1 * 17 + j - a.length = j by omega]; exact h
  · rw [List.getElem?_append_right (by omega), List.getElem?_append_right (by omega), show 0 + 2 * 17 + j - a.length - b.length = j by omega]; exact h

theorem live_nds (W1 : World) (va vb : Option Addr) (vc vd : Nat) (h1 : Cells W1.heap.size W1 va (rootN.data.map u8v)) (h2 : Cells W1.heap.size W1 vb (acCs rootN.acl)) (Wc : World)
    (hWc : ((W1.alloc (.cells #[.int .u8 120, .int .u8 121] 5 (2, 3))).alloc (.cells #[.int .u8 49, .int .u8 50, .int .u8 51] 5 (3, 4))).alloc (.cells (liveRow W1.heap.size va vb vc vd).toArray 47) = Wc) :
    NdsAt Wc.heap.size Wc (some ⟨W1.heap.size + 1 + 1, 0, none⟩) liveL ∧ Ext W1 Wc := by
  obtain ⟨Wa, hWa⟩ : ∃ Wa, Wa = W1.alloc (.cells #[.int .u8 120, .int .u8 121] 5 (2, 3)) := ⟨_, rfl⟩
  obtain ⟨Wb, hWb⟩ : ∃ Wb, Wb = Wa.alloc (.cells #[.int .u8 49, .int .u8 50, .int .u8 51] 5 (3, 4)) := ⟨_, rfl⟩
  rw [← hWa, ← hWb] at hWc
  have hza : Wa.heap.size = W1.heap.size + 1 := by rw [hWa]; simp
  have hzb : Wb.heap.size = W1.heap.size + 1 + 1 := by rw [hWb]; simp [hza]
  have hzc : Wc.heap.size = W1.heap.size + 1 + 1 + 1 := by rw [← hWc]; simp [hzb]
  have hE : Ext Wb Wc := by rw [← hWc]; exact Ext.alloc _ _
  have hEb : Ext Wa Wb := by rw [hWb]; exact Ext.alloc _ _
  have hEa : Ext W1 Wa := by rw [hWa]; exact Ext.alloc _ _
  have hE1 : Ext W1 Wc := hEa.trans (hEb.trans hE)
  have ga : Wc.heap[W1.heap.size]? = some (.cells #[.int .u8 120, .int .u8 121] 5 (2, 3)) := ((hEb.trans hE).block W1.heap.size (by omega)).trans (by rw [hWa]; exact heap_alloc_new W1 _)
  have gb : Wc.heap[W1.heap.size + 1]? = some (.cells #[.int .u8 49, .int .u8 50, .int .u8 51] 5 (3, 4)) := (hE.block (W1.heap.size + 1) (by omega)).trans (by rw [hWb, ← hza]; exact heap_alloc_new Wa _)
  have gc : Wc.heap[W1.heap.size + 1 + 1]? = some (.cells (liveRow W1.heap.size va vb vc vd).toArray 47 (0, 0)) := by rw [← hWc, ← hzb]; exact heap_alloc_new Wb _
  have cA : Cells Wc.heap.size Wc (some ⟨W1.heap.size, 0, none⟩) (liveA.data.map u8v) := fun j u hj => ⟨_, 0, rfl, by omega, by rw [Nat.zero_add, cell_of_row _ _ _ _ _ _ ga, ← Array.getElem?_toList]; exact hj⟩
  have cB : Cells Wc.heap.size Wc (some ⟨W1.heap.size + 1, 0, none⟩) (liveB.data.map u8v) := fun j u hj => ⟨_, 0, rfl, by omega, by rw [Nat.zero_add, cell_of_row _ _ _ _ _ _ gb, ← Array.getElem?_toList]; exact hj⟩
  obtain ⟨r0, r1, r2⟩ := row3_at (a := (ndC rootN (.slice va 0 vc) (.slice vb 1 vd)).toList) (b := (ndC liveA (.slice (some ⟨W1.heap.size, 0, none⟩) 2 2) (.slice none 0 0)).toList) (c := (ndC liveB (.slice (some ⟨W1.heap.size + 1, 0, none⟩) 3 3) (.slice none 0 0)).toList) rfl rfl
  refine ⟨fun i n hi => ?_, hE1⟩
  match i, hi with
  | 0, hi =>
    obtain rfl : rootN = n := Option.some.inj hi
    refine ⟨_, 0, .agg (ndC rootN (.slice va 0 vc) (.slice vb 1 vd)), rfl, by omega, ⟨va, vc, vb, vd, rfl, h1.ext hE1, h2.ext hE1⟩, fun j u hj => ?_⟩
    rw [cell_of_row _ _ _ _ _ _ gc, List.getElem?_toArray]
    exact r0 j u (by rw [Array.getElem?_toList]; exact hj)
  | 1, hi =>
    obtain rfl : liveA = n := Option.some.inj hi
    refine ⟨_, 0, .agg (ndC liveA (.slice (some ⟨W1.heap.size, 0, none⟩) 2 2) (.slice none 0 0)), rfl, by omega, ⟨_, 2, none, 0, rfl, cA, Cells.nil _ _ _⟩, fun j u hj => ?_⟩
    rw [cell_of_row _ _ _ _ _ _ gc, List.getElem?_toArray]
    exact r1 j u (by rw [Array.getElem?_toList]; exact hj)
  | 2, hi =>
    obtain rfl : liveB = n := Option.some.inj hi
    refine ⟨_, 0, .agg (ndC liveB (.slice (some ⟨W1.heap.size + 1, 0, none⟩) 3 3) (.slice none 0 0)), rfl, by omega, ⟨_, 3, none, 0, rfl, cB, Cells.nil _ _ _⟩, fun j u hj => ?_⟩
    rw [cell_of_row _ _ _ _ _ _ gc, List.getElem?_toArray]
    exact r2 j u (by rw [Array.getElem?_toList]; exact hj)
  | i + 3, hi => simp [liveL] at hi

theorem live10_any (w : World) (hT : Tabs w) : Calls Tryz.prog 18 #[] w fun e w' => e = .returned (.bool true) ∧ Ext w w' := by
  have hsz := hT.size
  have C1 := Lib.hid (rroot_any w)
  have HT := Lib.hid hT
  clear hT
  go_enter Tryz.func18, Tryz.ntmps18
  go_wp2_with fail
  refine C1.out.mono ?_
  rintro e W1 ⟨v, rfl, hN, hE1⟩
  obtain ⟨va, vc, vb, vd, rfl, h1, h2⟩ := hN
  have hE1 : Ext w W1 := hE1
  have hcv1 := Lib.run_convert_bytes_const (P := Tryz.prog) W1 42 5 #[.int .u8 120, .int .u8 121] 2 2 Tryz.underlying42 Tryz.underlying5
  have hcv2 := Lib.run_convert_bytes_const (P := Tryz.prog) (W1.alloc (.cells #[.int .u8 120, .int .u8 121] 5 (2, 3))) 42 5 #[.int .u8 49, .int .u8 50, .int .u8 51] 3 3 Tryz.underlying42 Tryz.underlying5
  rw [World.size_alloc] at hcv2
  simp only [List.size_toArray, List.length_cons, List.length_nil] at hcv1 hcv2
  simp only [Nat.zero_add, Nat.reduceAdd] at hcv1 hcv2
  obtain ⟨Wc, hWc⟩ : ∃ Wc, ((W1.alloc (.cells #[.int .u8 120, .int .u8 121] 5 (2, 3))).alloc (.cells #[.int .u8 49, .int .u8 50, .int .u8 51] 5 (3, 4))).alloc (.cells (liveRow W1.heap.size va vb vc vd).toArray 47) = Wc := ⟨_, rfl⟩
  obtain ⟨hnd, hEc⟩ := live_nds W1 va vb vc vd (h1.cells fun b hb => hb.2) (h2.cells fun b hb => hb.2) Wc hWc
  have hEw := hE1.trans hEc
  have C2 := from_any liveL (some ⟨W1.heap.size + 1 + 1, 0, none⟩) 3 Wc (HT.out.below hEw hsz) hnd (fun n hn => (right_fit (live_right n hn)).1) (by decide)
  have C2 : Calls Tryz.prog 12 #[.slice (some ⟨W1.heap.size + 1 + 1, 0, none⟩) 3 3] Wc (FromOut liveL Wc) := C2
  have C2 := Lib.hid C2
  have HWC := Lib.hid (show ((W1.alloc (.cells #[.int .u8 120, .int .u8 121] 5 (2, 3))).alloc (.cells #[.int .u8 49, .int .u8 50, .int .u8 51] 5 (3, 4))).alloc (.cells #[.string ⟨#[47]⟩, .slice va 0 vc, .slice vb 1 vd, .int .i64 0, .int .i64 0, .int .i64 0, .int .i64 0, .int .i64 0, .int .i64 0, .int .i64 0, .int .i64 0, .int .i32 0, .int .i32 0, .int .i32 0, .bool false, .int .i64 0, .int .i64 0,
    .string ⟨#[47, 97]⟩, .slice (some ⟨W1.heap.size, 0, none⟩) 2 2, .slice none 0 0, .int .i64 0, .int .i64 0, .int .i64 0, .int .i64 0, .int .i64 0, .int .i64 0, .int .i64 0, .int .i64 0, .int .i32 0, .int .i32 0, .int .i32 0, .bool true, .int .i64 3, .int .i64 10,
    .string ⟨#[47, 97, 47, 98]⟩, .slice (some ⟨W1.heap.size + 1, 0, none⟩) 3 3, .slice none 0 0, .int .i64 0, .int .i64 0, .int .i64 0, .int .i64 0, .int .i64 0, .int .i64 0, .int .i64 0, .int .i64 0, .int .i32 0, .int .i32 0, .int .i32 0, .bool false, .int .i64 0, .int .i64 0] 47) = Wc from hWc)
  have HEw := Lib.hid hEw
  unfold ndC rootN newN rootP
  clear C1 hE1 hEc hnd hWc h1 h2 hEw
  go_wp2_with fail
  rw [HWC.out]
  refine C2.out.mono ?_
  intro e W2 hout
  unfold FromOut at hout
  rw [live_from] at hout
  obtain ⟨bt, rfl, hT2, hE2⟩ := hout
  have hE2 : Ext Wc W2 := hE2
  have hok := hT2.ok
  have CN := Lib.hid (no10_any 0 W2)
  have hG := GetsM.of_tree hT2
  have hWe := WeighsM.of_tree hT2 live_clo (by decide)
  have CE6 := Lib.hid (show Calls Tryz.prog 19 #[.pointer (some ⟨bt, 0, none⟩), .string ⟨#[47, 97, 47, 99]⟩, .int .i64 1, .int .i64 6] W2 (fun e w' => e = .returned (.tuple #[.string ⟨#[47, 97]⟩, .bool true]) ∧ Ext W2 w') by
    have := qExceeds_any _ ⟨_, rfl⟩ liveM W2 hok hG hWe ⟨#[47, 97, 47, 99]⟩ (by decide) 1 6
    unfold ExcOut at this
    rw [live_first] at this
    exact this)
  have CE5 := Lib.hid fun W (h : Ext W2 W) => (show Calls Tryz.prog 19 #[.pointer (some ⟨bt, 0, none⟩), .string ⟨#[47, 97, 47, 99]⟩, .int .i64 1, .int .i64 5] W (fun e w' => e = .returned (.tuple #[.string ⟨#[]⟩, .bool false]) ∧ Ext W w') by
    have := qExceeds_any _ ⟨_, rfl⟩ liveM W hok (fun W' t h1 h2 => hG W' t (h.trans h1) h2) (fun W' n h1 h2 => hWe W' n (h.trans h1) h2) ⟨#[47, 97, 47, 99]⟩ (by decide) 1 5
    unfold ExcOut at this
    rw [live_none] at this
    exact this)
  have CB := Lib.hid fun W (h : Ext W2 W) => qbegin_any _ ⟨_, rfl⟩ liveM W hok (fun ga hga => AllsM.of_tree (hT2.ext h) (by decide) ga hga) (fun W' n h1 h2 => hWe W' n (h.trans h1) h2) (by decide)
  have CO := Lib.hid fun W (h : Ext W2 W) => (qOver_any _ liveM W hok (fun W' t h1 h2 => hG W' t (h.trans h1) h2) ⟨#[47, 97, 47, 98, 47, 99]⟩ (by decide)).mono fun e w' h => texts_out h
  have HE2 := Lib.hid (HEw.out.trans hE2)
  clear C2 hE2 HWC hcv1 hcv2 hG hWe hT2 hok
  go_wp2_with fail
  refine CN.out.mono ?_
  rintro e W3 ⟨rfl, rfl⟩
  clear CN
  go_wp2_with fail
  refine CE6.out.mono ?_
  rintro e W4 ⟨rfl, hE4⟩
  have HE4 := Lib.hid hE4
  have CE5 := Lib.hid (CE5.out W4 hE4)
  clear CE6 hE4
  go_wp2_with fail
  refine CE5.out.mono ?_
  rintro e W5 ⟨rfl, hE5⟩
  have HE5 := Lib.hid (HE4.out.trans hE5)
  have CB := Lib.hid (CB.out W5 (HE4.out.trans hE5))
  clear CE5 hE5
  go_wp2_with fail
  refine CB.out.mono ?_
  rintro e W6 ⟨bb, bm, rfl, hbk, _, _, hE6⟩
  have hE6 : Ext W5 W6 := hE6
  have CU := qused_any W6 bb bm (usedL liveM) hbk (usedP_pairs _ _) ⟨#[47, 97]⟩ (by unfold maxLen; decide)
  unfold usedAt at CU
  rw [live_used] at CU
  have CU := Lib.hid CU
  have HE6 := Lib.hid (HE5.out.trans hE6)
  clear CB hE6 hbk
  go_wp2_with fail
  refine CU.out.mono ?_
  rintro e W7 ⟨rfl, hE7⟩
  have hE7 : Ext W6 W7 := hE7
  obtain ⟨X7, hX7⟩ : ∃ X7, X7 = W7.alloc (.cells #[.int .i64 2, .int .i64 5] 110) := ⟨_, rfl⟩
  have HSET := Lib.hid ((setRow_alloc W7 zeroUsed #[.int .i64 2, .int .i64 5] 110).trans hX7.symm)
  have HNEW := Lib.hid (heap_alloc_new W7 (.cells zeroUsed 110))
  have hEX : Ext W7 X7 := by rw [hX7]; exact Ext.alloc _ _
  have hb7 : X7.heap[W7.heap.size]? = some (.cells #[.int .i64 2, .int .i64 5] 110 (0, 0)) := by rw [hX7]; exact heap_alloc_new W7 _
  have u0 : X7.cell? ⟨W7.heap.size, 0, none⟩ = some (.int .i64 2) := cell_of_row _ _ _ _ _ _ hb7
  have u1 : X7.cell? ⟨W7.heap.size, 1, none⟩ = some (.int .i64 5) := cell_of_row _ _ _ _ _ _ hb7
  have hEa := HE6.out.trans (hE7.trans hEX)
  have CO := Lib.hid (CO.out X7 hEa)
  have HE7 := Lib.hid hEa
  unfold zeroUsed at HSET HNEW
  clear CU hE7 hX7 hEX hb7 hEa
  go_wp2_with (refine wpList_store_row rfl 110 (.tmp 9) (.tmp 47) rfl W7.heap.size _ rfl rfl 110 _ HNEW.out sizeUsed rfl (by simp [Value.oneCell']) ?_; rw [HSET.out])
  refine CO.out.mono ?_
  rw [live_over]
  rintro e W8 ⟨oa, oc, rfl, hst, hE8⟩
  have hE8 : Ext X7 W8 := hE8
  have hEal : Ext W8 (W8.alloc (.cells #[.string ⟨#[47, 97]⟩] 9)) := Ext.alloc _ _
  have hs1 : StrsAt (W8.alloc (.cells #[.string ⟨#[47, 97]⟩] 9)).heap.size (W8.alloc (.cells #[.string ⟨#[47, 97]⟩] 9)) (some ⟨W8.heap.size, 0, none⟩) [liveA.path] := fun i s hi => by
    refine ⟨_, 0, rfl, by simp, ?_⟩
    rw [Nat.zero_add, cell_of_row _ _ _ _ _ _ (heap_alloc_new W8 _)]
    match i, hi with
    | 0, hi => cases hi; rfl
    | i + 1, hi => simp at hi
  have CT := sameTexts_self [liveA.path] oa (some ⟨W8.heap.size, 0, none⟩) oc 1 (W8.alloc (.cells #[.string ⟨#[47, 97]⟩] 9)) (hst.ext hEal) hs1 (by decide)
  have CT : Calls Tryz.prog 29 #[.slice oa 1 oc, .slice (some ⟨W8.heap.size, 0, none⟩) 1 1] (W8.alloc (.cells #[.string ⟨#[47, 97]⟩] 9)) fun e w' => e = .returned (.bool true) ∧ Ext (W8.alloc (.cells #[.string ⟨#[47, 97]⟩] 9)) w' := CT
  have CT := Lib.hid CT
  have HE8 := Lib.hid ((HE7.out.trans hE8).trans hEal)
  clear CO hE8 hEal hs1 hst u0 u1 HSET HNEW
  simp only [List.map_cons, List.map_nil, List.length_cons, List.length_nil, Nat.zero_add]
  go_wp2_with fail
  refine CT.out.mono ?_
  rintro e W9 ⟨rfl, hE9⟩
  have HFIN : Hid (Ext w W9) := HE2.out.trans (HE8.out.trans hE9)
  clear CT hE9
  go_wp2
  go_ret
  exact ⟨rfl, HFIN.out⟩
end Go.Proofs.YtamolbegmkngdaaGreatDoor
namespace Go.Proofs.YtamolbegmkngdaaGreatDoor
open Go.RowKit Go.Sort
set_option maxHeartbeats 8000000
set_option maxRecDepth 100000

/-- What laid hands back answers Get and Weigh. -/
theorem laid_gets {L : List Nd} {w w' : World} {e : Ending} (hl : L.length * 168 ≤ 140737488355328) (h : LaidOut L w e w') : ∃ pv rv M, e = .returned (.tuple #[pv, rv, .bool true]) ∧ (∃ po, pv = .pointer po) ∧ MOk M ∧ GetsM pv M w' ∧ WeighsM pv M w' ∧ Ext w w' := by
  unfold LaidOut at h
  cases hfr : fromN L with
  | error x =>
    rw [hfr] at h
    obtain ⟨rfl, hE⟩ := h
    exact ⟨_, _, [], rfl, ⟨_, rfl⟩, MOk.nil, GetsM.nil _, WeighsM.nil _ _, hE⟩
  | ok M =>
    rw [hfr] at h
    obtain ⟨bt, br, rfl, hT, hR, _, hE⟩ := h
    have hml := hT.len
    exact ⟨_, _, M, rfl, ⟨_, rfl⟩, hT.ok, GetsM.of_tree hT, WeighsM.of_tree hT (fromN_clo hT.ok hfr) (by omega), hE⟩

/-- The path of the first one. -/
def excP (o : Option Nd) : ByteArray := match o with | some n => n.path | none => ⟨#[]⟩
theorem exc_out {P : Nd → Bool} {L : List Nd} {w w' : World} {e : Ending} (h : ExcOut P L w e w') : e = .returned (.tuple #[.string (excP (L.find? P)), .bool (L.find? P).isSome]) ∧ Ext w w' := by
  obtain ⟨rfl, hE⟩ := h
  refine ⟨?_, hE⟩
  cases L.find? P <;> rfl

theorem overB_more {M : List (Key × Nd)} {dn db mn mb : Int} (h1 : dn ≤ mn) (h2 : db ≤ mb) {n : Nd} (h : overB M dn db n = true) : overB M mn mb n = true := by
  unfold overB at h ⊢
  simp only [Bool.or_eq_true] at h ⊢
  exact h.imp (passB_more h1) (passB_more h2)
theorem first_more {M : List (Key × Nd)} {s : ByteArray} {dn db mn mb : Int} (h1 : dn ≤ mn) (h2 : db ≤ mb) (h : (firstO M s dn db).isSome = true) : (firstO M s mn mb).isSome = true := by
  unfold firstO at h ⊢
  rw [List.find?_isSome] at h ⊢
  obtain ⟨x, hx, hp⟩ := h
  exact ⟨x, hx, overB_more h1 h2 hp⟩
theorem first_none {M : List (Key × Nd)} {s : ByteArray} {dn db : Int} (h1 : dn ≤ 0) (h2 : db ≤ 0) : (firstO M s dn db).isSome = false := by
  cases h : (firstO M s dn db).isSome with
  | false => rfl
  | true =>
    exfalso
    unfold firstO at h
    rw [List.find?_isSome] at h
    obtain ⟨x, hx, hp⟩ := h
    unfold overB at hp
    rw [passB_none h1, passB_none h2] at hp
    cases hp

theorem qmore_walk (L : List Nd) (a : Option Addr) (c : Nat) (s : ByteArray) (dn db mn mb : Int) (w : World) (hT : Tabs w) (hL : NdsAt w.heap.size w a L) (hf : ∀ n ∈ L, Fit n) (hl : L.length * 168 ≤ 140737488355328) (hs : s.size ≤ 9223372036854775800) :
    Calls Tryz.prog 4 #[.slice a L.length c, .string s, .int .i64 dn, .int .i64 db, .int .i64 mn, .int .i64 mb] w fun e w' => e = .returned (.bool true) ∧ Below w.heap.size w w' := by
  have hsz := hT.size
  have C1 := Lib.hid (laid10_any L a c w hT hL hf hl)
  have HT := Lib.hid hT
  clear hL hf hT
  go_enter Tryz.func4, Tryz.ntmps4
  go_wp2_with fail
  refine C1.out.mono ?_
  intro e W1 hout
  obtain ⟨pv, rv, M, rfl, hpv, hM, hG, hWe, hE1⟩ := laid_gets hl hout
  have C2 := Lib.hid (live10_any W1 (HT.out.below hE1 hsz))
  have CE := Lib.hid fun W (h : Ext W1 W) (x y : Int) => (qExceeds_any pv hpv M W hM (fun W' t h1 h2 => hG W' t (h.trans h1) h2) (fun W' n h1 h2 => hWe W' n (h.trans h1) h2) s hs x y).mono fun e w' h => exc_out h
  have CO := Lib.hid fun W (h : Ext W1 W) => (qOver_any pv M W hM (fun W' t h1 h2 => hG W' t (h.trans h1) h2) s hs).mono fun e w' h => texts_out h
  have hle := overL_le M s
  have f1 := firstO_is M s dn db
  have f2 := fun h => first_none (M := M) (s := s) (dn := dn) (db := 0) h (Int.le_refl 0)
  have f3 := fun h => first_none (M := M) (s := s) (dn := 0) (db := db) (Int.le_refl 0) h
  have f4 := fun h1 h2 => first_more (M := M) (s := s) (dn := dn) (db := db) (mn := mn) (mb := mb) h1 h2
  have f5 : (firstO M s dn db).isSome = true → ∃ j, j < (overL M s).length ∧ ((overL M s).map (·.path))[j]? = some (excP (firstO M s dn db)) := fun h => by
    obtain ⟨n, hn⟩ := Option.isSome_iff_exists.1 h
    rw [hn]
    have hm := List.mem_of_find?_eq_some hn
    obtain ⟨j, hj, e⟩ := List.getElem_of_mem hm
    exact ⟨j, hj, by rw [List.getElem?_map, List.getElem?_eq_getElem hj, e]; rfl⟩
  have f6 : (firstO M s dn db).isSome = false → excP (firstO M s dn db) = ⟨#[]⟩ := fun h => by
    cases hx : firstO M s dn db with
    | none => rfl
    | some n => rw [hx] at h; cases h
  have hfo : ∀ x y, (overL M s).find? (overB M x y) = firstO M s x y := fun _ _ => rfl
  have HFO := Lib.hid hfo
  have HE1 := Lib.hid hE1
  clear hout C1 hM hG hWe hE1 hfo
  have HF5 := Lib.hid f5
  have HF6 := Lib.hid f6
  clear f5 f6
  go_wp2_with fail
  refine C2.out.mono ?_
  rintro e W2 ⟨rfl, hE2⟩
  have hE2 : Ext W1 W2 := hE2
  have CE1 := Lib.hid (CE.out W2 hE2 dn db)
  have HE2 := Lib.hid hE2
  clear C2 hE2
  go_wp2_with fail
  refine CE1.out.mono ?_
  rintro e W3 ⟨rfl, hE3⟩
  rw [HFO.out]
  have hE3 : Ext W2 W3 := hE3
  have CE2 := Lib.hid (CE.out W3 (HE2.out.trans hE3) dn 0)
  have HE3 := Lib.hid (HE2.out.trans hE3)
  clear CE1 hE3
  go_wp2_with fail
  refine CE2.out.mono ?_
  rintro e W4 ⟨rfl, hE4⟩
  rw [HFO.out]
  have hE4 : Ext W3 W4 := hE4
  have CE3 := Lib.hid (CE.out W4 (HE3.out.trans hE4) 0 db)
  have HE4 := Lib.hid (HE3.out.trans hE4)
  clear CE2 hE4
  go_wp2_with fail
  refine CE3.out.mono ?_
  rintro e W5 ⟨rfl, hE5⟩
  rw [HFO.out]
  have hE5 : Ext W4 W5 := hE5
  have CE4 := Lib.hid (CE.out W5 (HE4.out.trans hE5) mn mb)
  have COV := Lib.hid fun W (h : Ext W5 W) => CO.out W ((HE4.out.trans hE5).trans h)
  have HE5 := Lib.hid (HE4.out.trans hE5)
  have HFIN := Lib.hid fun W (h : Ext W5 W) => show Ext w W from HE1.out.trans ((HE4.out.trans hE5).trans h)
  clear CE3 hE5 CE CO
  generalize hp1 : excP (firstO M s dn db) = p1 at *
  generalize excP (firstO M s dn 0) = p2 at *
  generalize excP (firstO M s 0 db) = p3 at *
  generalize hb1 : (firstO M s dn db).isSome = b1 at *
  generalize hbn : (firstO M s dn 0).isSome = bn at *
  generalize hbb : (firstO M s 0 db).isSome = bb at *
  have hcn : bn = true ∧ decide (dn ≤ 0) = false ∧ ¬ dn ≤ 0 ∨ bn = false ∧ decide (dn ≤ 0) = false ∧ ¬ dn ≤ 0 ∨ bn = false ∧ decide (dn ≤ 0) = true ∧ dn ≤ 0 := by
    by_cases h : dn ≤ 0
    · exact .inr (.inr ⟨f2 h, by simpa using h, h⟩)
    · have hd : decide (dn ≤ 0) = false := by simpa using h
      cases bn
      · exact .inr (.inl ⟨rfl, hd, h⟩)
      · exact .inl ⟨rfl, hd, h⟩
  have hcb : bb = true ∧ decide (db ≤ 0) = false ∧ ¬ db ≤ 0 ∨ bb = false ∧ decide (db ≤ 0) = false ∧ ¬ db ≤ 0 ∨ bb = false ∧ decide (db ≤ 0) = true ∧ db ≤ 0 := by
    by_cases h : db ≤ 0
    · exact .inr (.inr ⟨f3 h, by simpa using h, h⟩)
    · have hd : decide (db ≤ 0) = false := by simpa using h
      cases bb
      · exact .inr (.inl ⟨rfl, hd, h⟩)
      · exact .inl ⟨rfl, hd, h⟩
  -- what follows where something is passed
  have HREST : Hid (b1 = true → True) := fun _ => trivial
  have hmm : decide (dn ≤ mn) = true ∧ dn ≤ mn ∧ decide (db ≤ mb) = true ∧ db ≤ mb ∨ decide (dn ≤ mn) = true ∧ dn ≤ mn ∧ decide (db ≤ mb) = false ∧ ¬ db ≤ mb ∨ decide (dn ≤ mn) = false ∧ ¬ dn ≤ mn := by
    by_cases h1 : dn ≤ mn
    · by_cases h2 : db ≤ mb
      · exact .inl ⟨by simpa using h1, h1, by simpa using h2, h2⟩
      · exact .inr (.inl ⟨by simpa using h1, h1, by simpa using h2, h2⟩)
    · exact .inr (.inr ⟨by simpa using h1, h1⟩)
  have HF1 := Lib.hid f1
  have HF4 := Lib.hid f4
  clear f1 f2 f3 f4 hb1 hbn hbb hp1 HFO
  cases hb : b1 with
  | false =>
    rw [hb] at HF1
    have hbn : bn = false := (Bool.or_eq_false_iff.1 HF1.out.symm).1
    have hbb : bb = false := (Bool.or_eq_false_iff.1 HF1.out.symm).2
    have hp : p1 = ⟨#[]⟩ := HF6.out hb
    subst hbn hbb hp
    clear HF1 HF4 HF5 HF6 hmm hb CE4 COV
    have HX := Lib.hid (HFIN.out W5 (Ext.refl _))
    clear HFIN
    rcases hcn with ⟨h, _⟩ | ⟨_, d1, e1⟩ | ⟨_, d1, e1⟩
    · cases h
    all_goals
      rcases hcb with ⟨h, _⟩ | ⟨_, d2, e2⟩ | ⟨_, d2, e2⟩
      · cases h
      all_goals
        go_wp2
        go_ret
        exact ⟨by rfl, HX.out⟩
  | true =>
    rw [hb] at HF1
    obtain ⟨j0, hj0, hj1⟩ := HF5.out hb
    have HJ := Lib.hid hj1
    have hmore : dn ≤ mn → db ≤ mb → (firstO M s mn mb).isSome = true := fun h1 h2 => HF4.out h1 h2 hb
    have HMORE := Lib.hid hmore
    clear HF5 HF6 HF4 hj1 hmore hb
    have hor : bn = true ∨ bn = false ∧ bb = true := by
      have h := HF1.out.symm
      rw [Bool.or_eq_true] at h
      by_cases hb1 : bn = true
      · exact .inl hb1
      · exact .inr ⟨(Bool.eq_false_or_eq_true bn).resolve_left hb1, h.resolve_left hb1⟩
    clear HF1
    rcases hcn with ⟨rfl, d1, e1⟩ | ⟨rfl, d1, e1⟩ | ⟨rfl, d1, e1⟩
    · clear hor
      rcases hcb with ⟨rfl, d2, e2⟩ | ⟨rfl, d2, e2⟩ | ⟨rfl, d2, e2⟩
      · rcases hmm with ⟨c1, m1, c2, m2⟩ | ⟨c1, m1, c2, m2⟩ | ⟨c1, m1⟩
        · go_wp2_with fail
          refine CE4.out.mono ?_
          rintro e W6 ⟨rfl, hE6⟩
          have hE6 : Ext W5 W6 := hE6
          have hsm : (List.find? (overB M mn mb) (overL M s)).isSome = true := HMORE.out m1 m2
          rw [hsm]
          have HEE := Lib.hid hE6
          generalize excP (List.find? (overB M mn mb) (overL M s)) = px
          clear hsm HMORE hE6
          obtain ⟨WW, hWW⟩ : ∃ WW, WW = W6 := ⟨_, rfl⟩
          subst hWW
          go_wp2_with fail
          refine (COV.out WW HEE.out).mono ?_
          rintro e W7 ⟨oa, oc, rfl, hst, hE7⟩
          have hE7 : Ext WW W7 := hE7
          have HST := Lib.hid hst
          have HE7 := Lib.hid (HEE.out.trans hE7)
          rw [List.length_map]
          clear hst hE7 COV CE4
          go_wp2
          go_loopw [25] (fun i wr => ∃ k : Nat, k ≤ j0 ∧ i = .int .i64 k ∧ wr = W7) (fun i _ => j0 + 1 - (intOf i).toNat)
          case atStart => exact ⟨0, Nat.zero_le _, rfl, rfl⟩
          case round =>
            obtain ⟨k, hk, rfl, rfl⟩ := hrel
            have hkl : k < (overL M s).length := by omega
            obtain ⟨q, hq⟩ : ∃ q, ((overL M s).map (·.path))[k]? = some q := ⟨_, List.getElem?_eq_getElem (by rw [List.length_map]; exact hkl)⟩
            obtain ⟨b7, o7, rfl, hb7, hc7⟩ := HST.out k q hq
            by_cases he : q.toList = p1.toList
            · have e1 : (q.toList == p1.toList) = true := by simpa using he
              have HX := Lib.hid (HFIN.out wr HE7.out)
              clear HFIN hq HJ
              go_wp2
              go_ret
              exact ⟨by first | rfl | simp, HX.out⟩
            · have e1 : (q.toList == p1.toList) = false := by simpa using he
              have hne : k ≠ j0 := fun h => by
                subst h
                rw [HJ.out] at hq
                exact he (by rw [Option.some.inj hq])
              clear hq
              go_wp2
              go_roundw
              case rel => exact ⟨k + 1, by omega, by go_num, by first | rfl | trivial⟩
              case measure => simp [intOf]; omega
        · have HEE := Lib.hid (Ext.refl W5)
          obtain ⟨WW, hWW⟩ : ∃ WW, WW = W5 := ⟨_, rfl⟩
          subst hWW
          clear HMORE
          go_wp2_with fail
          refine (COV.out WW HEE.out).mono ?_
          rintro e W7 ⟨oa, oc, rfl, hst, hE7⟩
          have hE7 : Ext WW W7 := hE7
          have HST := Lib.hid hst
          have HE7 := Lib.hid (HEE.out.trans hE7)
          rw [List.length_map]
          clear hst hE7 COV CE4
          go_wp2
          go_loopw [25] (fun i wr => ∃ k : Nat, k ≤ j0 ∧ i = .int .i64 k ∧ wr = W7) (fun i _ => j0 + 1 - (intOf i).toNat)
          case atStart => exact ⟨0, Nat.zero_le _, rfl, rfl⟩
          case round =>
            obtain ⟨k, hk, rfl, rfl⟩ := hrel
            have hkl : k < (overL M s).length := by omega
            obtain ⟨q, hq⟩ : ∃ q, ((overL M s).map (·.path))[k]? = some q := ⟨_, List.getElem?_eq_getElem (by rw [List.length_map]; exact hkl)⟩
            obtain ⟨b7, o7, rfl, hb7, hc7⟩ := HST.out k q hq
            by_cases he : q.toList = p1.toList
            · have e1 : (q.toList == p1.toList) = true := by simpa using he
              have HX := Lib.hid (HFIN.out wr HE7.out)
              clear HFIN hq HJ
              go_wp2
              go_ret
              exact ⟨by first | rfl | simp, HX.out⟩
            · have e1 : (q.toList == p1.toList) = false := by simpa using he
              have hne : k ≠ j0 := fun h => by
                subst h
                rw [HJ.out] at hq
                exact he (by rw [Option.some.inj hq])
              clear hq
              go_wp2
              go_roundw
              case rel => exact ⟨k + 1, by omega, by go_num, by first | rfl | trivial⟩
              case measure => simp [intOf]; omega
        · have HEE := Lib.hid (Ext.refl W5)
          obtain ⟨WW, hWW⟩ : ∃ WW, WW = W5 := ⟨_, rfl⟩
          subst hWW
          clear HMORE
          go_wp2_with fail
          refine (COV.out WW HEE.out).mono ?_
          rintro e W7 ⟨oa, oc, rfl, hst, hE7⟩
          have hE7 : Ext WW W7 := hE7
          have HST := Lib.hid hst
          have HE7 := Lib.hid (HEE.out.trans hE7)
          rw [List.length_map]
          clear hst hE7 COV CE4
          go_wp2
          go_loopw [25] (fun i wr => ∃ k : Nat, k ≤ j0 ∧ i = .int .i64 k ∧ wr = W7) (fun i _ => j0 + 1 - (intOf i).toNat)
          case atStart => exact ⟨0, Nat.zero_le _, rfl, rfl⟩
          case round =>
            obtain ⟨k, hk, rfl, rfl⟩ := hrel
            have hkl : k < (overL M s).length := by omega
            obtain ⟨q, hq⟩ : ∃ q, ((overL M s).map (·.path))[k]? = some q := ⟨_, List.getElem?_eq_getElem (by rw [List.length_map]; exact hkl)⟩
            obtain ⟨b7, o7, rfl, hb7, hc7⟩ := HST.out k q hq
            by_cases he : q.toList = p1.toList
            · have e1 : (q.toList == p1.toList) = true := by simpa using he
              have HX := Lib.hid (HFIN.out wr HE7.out)
              clear HFIN hq HJ
              go_wp2
              go_ret
              exact ⟨by first | rfl | simp, HX.out⟩
            · have e1 : (q.toList == p1.toList) = false := by simpa using he
              have hne : k ≠ j0 := fun h => by
                subst h
                rw [HJ.out] at hq
                exact he (by rw [Option.some.inj hq])
              clear hq
              go_wp2
              go_roundw
              case rel => exact ⟨k + 1, by omega, by go_num, by first | rfl | trivial⟩
              case measure => simp [intOf]; omega
      · rcases hmm with ⟨c1, m1, c2, m2⟩ | ⟨c1, m1, c2, m2⟩ | ⟨c1, m1⟩
        · go_wp2_with fail
          refine CE4.out.mono ?_
          rintro e W6 ⟨rfl, hE6⟩
          have hE6 : Ext W5 W6 := hE6
          have hsm : (List.find? (overB M mn mb) (overL M s)).isSome = true := HMORE.out m1 m2
          rw [hsm]
          have HEE := Lib.hid hE6
          generalize excP (List.find? (overB M mn mb) (overL M s)) = px
          clear hsm HMORE hE6
          obtain ⟨WW, hWW⟩ : ∃ WW, WW = W6 := ⟨_, rfl⟩
          subst hWW
          go_wp2_with fail
          refine (COV.out WW HEE.out).mono ?_
          rintro e W7 ⟨oa, oc, rfl, hst, hE7⟩
          have hE7 : Ext WW W7 := hE7
          have HST := Lib.hid hst
          have HE7 := Lib.hid (HEE.out.trans hE7)
          rw [List.length_map]
          clear hst hE7 COV CE4
          go_wp2
          go_loopw [25] (fun i wr => ∃ k : Nat, k ≤ j0 ∧ i = .int .i64 k ∧ wr = W7) (fun i _ => j0 + 1 - (intOf i).toNat)
          case atStart => exact ⟨0, Nat.zero_le _, rfl, rfl⟩
          case round =>
            obtain ⟨k, hk, rfl, rfl⟩ := hrel
            have hkl : k < (overL M s).length := by omega
            obtain ⟨q, hq⟩ : ∃ q, ((overL M s).map (·.path))[k]? = some q := ⟨_, List.getElem?_eq_getElem (by rw [List.length_map]; exact hkl)⟩
            obtain ⟨b7, o7, rfl, hb7, hc7⟩ := HST.out k q hq
            by_cases he : q.toList = p1.toList
            · have e1 : (q.toList == p1.toList) = true := by simpa using he
              have HX := Lib.hid (HFIN.out wr HE7.out)
              clear HFIN hq HJ
              go_wp2
              go_ret
              exact ⟨by first | rfl | simp, HX.out⟩
            · have e1 : (q.toList == p1.toList) = false := by simpa using he
              have hne : k ≠ j0 := fun h => by
                subst h
                rw [HJ.out] at hq
                exact he (by rw [Option.some.inj hq])
              clear hq
              go_wp2
              go_roundw
              case rel => exact ⟨k + 1, by omega, by go_num, by first | rfl | trivial⟩
              case measure => simp [intOf]; omega
        · have HEE := Lib.hid (Ext.refl W5)
          obtain ⟨WW, hWW⟩ : ∃ WW, WW = W5 := ⟨_, rfl⟩
          subst hWW
          clear HMORE
          go_wp2_with fail
          refine (COV.out WW HEE.out).mono ?_
          rintro e W7 ⟨oa, oc, rfl, hst, hE7⟩
          have hE7 : Ext WW W7 := hE7
          have HST := Lib.hid hst
          have HE7 := Lib.hid (HEE.out.trans hE7)
          rw [List.length_map]
          clear hst hE7 COV CE4
          go_wp2
          go_loopw [25] (fun i wr => ∃ k : Nat, k ≤ j0 ∧ i = .int .i64 k ∧ wr = W7) (fun i _ => j0 + 1 - (intOf i).toNat)
          case atStart => exact ⟨0, Nat.zero_le _, rfl, rfl⟩
          case round =>
            obtain ⟨k, hk, rfl, rfl⟩ := hrel
            have hkl : k < (overL M s).length := by omega
            obtain ⟨q, hq⟩ : ∃ q, ((overL M s).map (·.path))[k]? = some q := ⟨_, List.getElem?_eq_getElem (by rw [List.length_map]; exact hkl)⟩
            obtain ⟨b7, o7, rfl, hb7, hc7⟩ := HST.out k q hq
            by_cases he : q.toList = p1.toList
            · have e1 : (q.toList == p1.toList) = true := by simpa using he
              have HX := Lib.hid (HFIN.out wr HE7.out)
              clear HFIN hq HJ
              go_wp2
              go_ret
              exact ⟨by first | rfl | simp, HX.out⟩
            · have e1 : (q.toList == p1.toList) = false := by simpa using he
              have hne : k ≠ j0 := fun h => by
                subst h
                rw [HJ.out] at hq
                exact he (by rw [Option.some.inj hq])
              clear hq
              go_wp2
              go_roundw
              case rel => exact ⟨k + 1, by omega, by go_num, by first | rfl | trivial⟩
              case measure => simp [intOf]; omega
        · have HEE := Lib.hid (Ext.refl W5)
          obtain ⟨WW, hWW⟩ : ∃ WW, WW = W5 := ⟨_, rfl⟩
          subst hWW
          clear HMORE
          go_wp2_with fail
          refine (COV.out WW HEE.out).mono ?_
          rintro e W7 ⟨oa, oc, rfl, hst, hE7⟩
          have hE7 : Ext WW W7 := hE7
          have HST := Lib.hid hst
          have HE7 := Lib.hid (HEE.out.trans hE7)
          rw [List.length_map]
          clear hst hE7 COV CE4
          go_wp2
          go_loopw [25] (fun i wr => ∃ k : Nat, k ≤ j0 ∧ i = .int .i64 k ∧ wr = W7) (fun i _ => j0 + 1 - (intOf i).toNat)
          case atStart => exact ⟨0, Nat.zero_le _, rfl, rfl⟩
          case round =>
            obtain ⟨k, hk, rfl, rfl⟩ := hrel
            have hkl : k < (overL M s).length := by omega
            obtain ⟨q, hq⟩ : ∃ q, ((overL M s).map (·.path))[k]? = some q := ⟨_, List.getElem?_eq_getElem (by rw [List.length_map]; exact hkl)⟩
            obtain ⟨b7, o7, rfl, hb7, hc7⟩ := HST.out k q hq
            by_cases he : q.toList = p1.toList
            · have e1 : (q.toList == p1.toList) = true := by simpa using he
              have HX := Lib.hid (HFIN.out wr HE7.out)
              clear HFIN hq HJ
              go_wp2
              go_ret
              exact ⟨by first | rfl | simp, HX.out⟩
            · have e1 : (q.toList == p1.toList) = false := by simpa using he
              have hne : k ≠ j0 := fun h => by
                subst h
                rw [HJ.out] at hq
                exact he (by rw [Option.some.inj hq])
              clear hq
              go_wp2
              go_roundw
              case rel => exact ⟨k + 1, by omega, by go_num, by first | rfl | trivial⟩
              case measure => simp [intOf]; omega
      · rcases hmm with ⟨c1, m1, c2, m2⟩ | ⟨c1, m1, c2, m2⟩ | ⟨c1, m1⟩
        · go_wp2_with fail
          refine CE4.out.mono ?_
          rintro e W6 ⟨rfl, hE6⟩
          have hE6 : Ext W5 W6 := hE6
          have hsm : (List.find? (overB M mn mb) (overL M s)).isSome = true := HMORE.out m1 m2
          rw [hsm]
          have HEE := Lib.hid hE6
          generalize excP (List.find? (overB M mn mb) (overL M s)) = px
          clear hsm HMORE hE6
          obtain ⟨WW, hWW⟩ : ∃ WW, WW = W6 := ⟨_, rfl⟩
          subst hWW
          go_wp2_with fail
          refine (COV.out WW HEE.out).mono ?_
          rintro e W7 ⟨oa, oc, rfl, hst, hE7⟩
          have hE7 : Ext WW W7 := hE7
          have HST := Lib.hid hst
          have HE7 := Lib.hid (HEE.out.trans hE7)
          rw [List.length_map]
          clear hst hE7 COV CE4
          go_wp2
          go_loopw [25] (fun i wr => ∃ k : Nat, k ≤ j0 ∧ i = .int .i64 k ∧ wr = W7) (fun i _ => j0 + 1 - (intOf i).toNat)
          case atStart => exact ⟨0, Nat.zero_le _, rfl, rfl⟩
          case round =>
            obtain ⟨k, hk, rfl, rfl⟩ := hrel
            have hkl : k < (overL M s).length := by omega
            obtain ⟨q, hq⟩ : ∃ q, ((overL M s).map (·.path))[k]? = some q := ⟨_, List.getElem?_eq_getElem (by rw [List.length_map]; exact hkl)⟩
            obtain ⟨b7, o7, rfl, hb7, hc7⟩ := HST.out k q hq
            by_cases he : q.toList = p1.toList
            · have e1 : (q.toList == p1.toList) = true := by simpa using he
              have HX := Lib.hid (HFIN.out wr HE7.out)
              clear HFIN hq HJ
              go_wp2
              go_ret
              exact ⟨by first | rfl | simp, HX.out⟩
            · have e1 : (q.toList == p1.toList) = false := by simpa using he
              have hne : k ≠ j0 := fun h => by
                subst h
                rw [HJ.out] at hq
                exact he (by rw [Option.some.inj hq])
              clear hq
              go_wp2
              go_roundw
              case rel => exact ⟨k + 1, by omega, by go_num, by first | rfl | trivial⟩
              case measure => simp [intOf]; omega
        · have HEE := Lib.hid (Ext.refl W5)
          obtain ⟨WW, hWW⟩ : ∃ WW, WW = W5 := ⟨_, rfl⟩
          subst hWW
          clear HMORE
          go_wp2_with fail
          refine (COV.out WW HEE.out).mono ?_
          rintro e W7 ⟨oa, oc, rfl, hst, hE7⟩
          have hE7 : Ext WW W7 := hE7
          have HST := Lib.hid hst
          have HE7 := Lib.hid (HEE.out.trans hE7)
          rw [List.length_map]
          clear hst hE7 COV CE4
          go_wp2
          go_loopw [25] (fun i wr => ∃ k : Nat, k ≤ j0 ∧ i = .int .i64 k ∧ wr = W7) (fun i _ => j0 + 1 - (intOf i).toNat)
          case atStart => exact ⟨0, Nat.zero_le _, rfl, rfl⟩
          case round =>
            obtain ⟨k, hk, rfl, rfl⟩ := hrel
            have hkl : k < (overL M s).length := by omega
            obtain ⟨q, hq⟩ : ∃ q, ((overL M s).map (·.path))[k]? = some q := ⟨_, List.getElem?_eq_getElem (by rw [List.length_map]; exact hkl)⟩
            obtain ⟨b7, o7, rfl, hb7, hc7⟩ := HST.out k q hq
            by_cases he : q.toList = p1.toList
            · have e1 : (q.toList == p1.toList) = true := by simpa using he
              have HX := Lib.hid (HFIN.out wr HE7.out)
              clear HFIN hq HJ
              go_wp2
              go_ret
              exact ⟨by first | rfl | simp, HX.out⟩
            · have e1 : (q.toList == p1.toList) = false := by simpa using he
              have hne : k ≠ j0 := fun h => by
                subst h
                rw [HJ.out] at hq
                exact he (by rw [Option.some.inj hq])
              clear hq
              go_wp2
              go_roundw
              case rel => exact ⟨k + 1, by omega, by go_num, by first | rfl | trivial⟩
              case measure => simp [intOf]; omega
        · have HEE := Lib.hid (Ext.refl W5)
          obtain ⟨WW, hWW⟩ : ∃ WW, WW = W5 := ⟨_, rfl⟩
          subst hWW
          clear HMORE
          go_wp2_with fail
          refine (COV.out WW HEE.out).mono ?_
          rintro e W7 ⟨oa, oc, rfl, hst, hE7⟩
          have hE7 : Ext WW W7 := hE7
          have HST := Lib.hid hst
          have HE7 := Lib.hid (HEE.out.trans hE7)
          rw [List.length_map]
          clear hst hE7 COV CE4
          go_wp2
          go_loopw [25] (fun i wr => ∃ k : Nat, k ≤ j0 ∧ i = .int .i64 k ∧ wr = W7) (fun i _ => j0 + 1 - (intOf i).toNat)
          case atStart => exact ⟨0, Nat.zero_le _, rfl, rfl⟩
          case round =>
            obtain ⟨k, hk, rfl, rfl⟩ := hrel
            have hkl : k < (overL M s).length := by omega
            obtain ⟨q, hq⟩ : ∃ q, ((overL M s).map (·.path))[k]? = some q := ⟨_, List.getElem?_eq_getElem (by rw [List.length_map]; exact hkl)⟩
            obtain ⟨b7, o7, rfl, hb7, hc7⟩ := HST.out k q hq
            by_cases he : q.toList = p1.toList
            · have e1 : (q.toList == p1.toList) = true := by simpa using he
              have HX := Lib.hid (HFIN.out wr HE7.out)
              clear HFIN hq HJ
              go_wp2
              go_ret
              exact ⟨by first | rfl | simp, HX.out⟩
            · have e1 : (q.toList == p1.toList) = false := by simpa using he
              have hne : k ≠ j0 := fun h => by
                subst h
                rw [HJ.out] at hq
                exact he (by rw [Option.some.inj hq])
              clear hq
              go_wp2
              go_roundw
              case rel => exact ⟨k + 1, by omega, by go_num, by first | rfl | trivial⟩
              case measure => simp [intOf]; omega
    · have hbt : bb = true := hor.elim (fun h => by cases h) fun h => h.2
      subst hbt
      obtain ⟨d2, e2⟩ : decide (db ≤ 0) = false ∧ ¬ db ≤ 0 := by
        rcases hcb with ⟨_, h⟩ | ⟨h, _⟩ | ⟨h, _⟩
        · exact h
        · cases h
        · cases h
      clear hor hcb
      rcases hmm with ⟨c1, m1, c2, m2⟩ | ⟨c1, m1, c2, m2⟩ | ⟨c1, m1⟩
      · go_wp2_with fail
        refine CE4.out.mono ?_
        rintro e W6 ⟨rfl, hE6⟩
        have hE6 : Ext W5 W6 := hE6
        have hsm : (List.find? (overB M mn mb) (overL M s)).isSome = true := HMORE.out m1 m2
        rw [hsm]
        have HEE := Lib.hid hE6
        generalize excP (List.find? (overB M mn mb) (overL M s)) = px
        clear hsm HMORE hE6
        obtain ⟨WW, hWW⟩ : ∃ WW, WW = W6 := ⟨_, rfl⟩
        subst hWW
        go_wp2_with fail
        refine (COV.out WW HEE.out).mono ?_
        rintro e W7 ⟨oa, oc, rfl, hst, hE7⟩
        have hE7 : Ext WW W7 := hE7
        have HST := Lib.hid hst
        have HE7 := Lib.hid (HEE.out.trans hE7)
        rw [List.length_map]
        clear hst hE7 COV CE4
        go_wp2
        go_loopw [25] (fun i wr => ∃ k : Nat, k ≤ j0 ∧ i = .int .i64 k ∧ wr = W7) (fun i _ => j0 + 1 - (intOf i).toNat)
        case atStart => exact ⟨0, Nat.zero_le _, rfl, rfl⟩
        case round =>
          obtain ⟨k, hk, rfl, rfl⟩ := hrel
          have hkl : k < (overL M s).length := by omega
          obtain ⟨q, hq⟩ : ∃ q, ((overL M s).map (·.path))[k]? = some q := ⟨_, List.getElem?_eq_getElem (by rw [List.length_map]; exact hkl)⟩
          obtain ⟨b7, o7, rfl, hb7, hc7⟩ := HST.out k q hq
          by_cases he : q.toList = p1.toList
          · have e1 : (q.toList == p1.toList) = true := by simpa using he
            have HX := Lib.hid (HFIN.out wr HE7.out)
            clear HFIN hq HJ
            go_wp2
            go_ret
            exact ⟨by first | rfl | simp, HX.out⟩
          · have e1 : (q.toList == p1.toList) = false := by simpa using he
            have hne : k ≠ j0 := fun h => by
              subst h
              rw [HJ.out] at hq
              exact he (by rw [Option.some.inj hq])
            clear hq
            go_wp2
            go_roundw
            case rel => exact ⟨k + 1, by omega, by go_num, by first | rfl | trivial⟩
            case measure => simp [intOf]; omega
      · have HEE := Lib.hid (Ext.refl W5)
        obtain ⟨WW, hWW⟩ : ∃ WW, WW = W5 := ⟨_, rfl⟩
        subst hWW
        clear HMORE
        go_wp2_with fail
        refine (COV.out WW HEE.out).mono ?_
        rintro e W7 ⟨oa, oc, rfl, hst, hE7⟩
        have hE7 : Ext WW W7 := hE7
        have HST := Lib.hid hst
        have HE7 := Lib.hid (HEE.out.trans hE7)
        rw [List.length_map]
        clear hst hE7 COV CE4
        go_wp2
        go_loopw [25] (fun i wr => ∃ k : Nat, k ≤ j0 ∧ i = .int .i64 k ∧ wr = W7) (fun i _ => j0 + 1 - (intOf i).toNat)
        case atStart => exact ⟨0, Nat.zero_le _, rfl, rfl⟩
        case round =>
          obtain ⟨k, hk, rfl, rfl⟩ := hrel
          have hkl : k < (overL M s).length := by omega
          obtain ⟨q, hq⟩ : ∃ q, ((overL M s).map (·.path))[k]? = some q := ⟨_, List.getElem?_eq_getElem (by rw [List.length_map]; exact hkl)⟩
          obtain ⟨b7, o7, rfl, hb7, hc7⟩ := HST.out k q hq
          by_cases he : q.toList = p1.toList
          · have e1 : (q.toList == p1.toList) = true := by simpa using he
            have HX := Lib.hid (HFIN.out wr HE7.out)
            clear HFIN hq HJ
            go_wp2
            go_ret
            exact ⟨by first | rfl | simp, HX.out⟩
          · have e1 : (q.toList == p1.toList) = false := by simpa using he
            have hne : k ≠ j0 := fun h => by
              subst h
              rw [HJ.out] at hq
              exact he (by rw [Option.some.inj hq])
            clear hq
            go_wp2
            go_roundw
            case rel => exact ⟨k + 1, by omega, by go_num, by first | rfl | trivial⟩
            case measure => simp [intOf]; omega
      · have HEE := Lib.hid (Ext.refl W5)
        obtain ⟨WW, hWW⟩ : ∃ WW, WW = W5 := ⟨_, rfl⟩
        subst hWW
        clear HMORE
        go_wp2_with fail
        refine (COV.out WW HEE.out).mono ?_
        rintro e W7 ⟨oa, oc, rfl, hst, hE7⟩
        have hE7 : Ext WW W7 := hE7
        have HST := Lib.hid hst
        have HE7 := Lib.hid (HEE.out.trans hE7)
        rw [List.length_map]
        clear hst hE7 COV CE4
        go_wp2
        go_loopw [25] (fun i wr => ∃ k : Nat, k ≤ j0 ∧ i = .int .i64 k ∧ wr = W7) (fun i _ => j0 + 1 - (intOf i).toNat)
        case atStart => exact ⟨0, Nat.zero_le _, rfl, rfl⟩
        case round =>
          obtain ⟨k, hk, rfl, rfl⟩ := hrel
          have hkl : k < (overL M s).length := by omega
          obtain ⟨q, hq⟩ : ∃ q, ((overL M s).map (·.path))[k]? = some q := ⟨_, List.getElem?_eq_getElem (by rw [List.length_map]; exact hkl)⟩
          obtain ⟨b7, o7, rfl, hb7, hc7⟩ := HST.out k q hq
          by_cases he : q.toList = p1.toList
          · have e1 : (q.toList == p1.toList) = true := by simpa using he
            have HX := Lib.hid (HFIN.out wr HE7.out)
            clear HFIN hq HJ
            go_wp2
            go_ret
            exact ⟨by first | rfl | simp, HX.out⟩
          · have e1 : (q.toList == p1.toList) = false := by simpa using he
            have hne : k ≠ j0 := fun h => by
              subst h
              rw [HJ.out] at hq
              exact he (by rw [Option.some.inj hq])
            clear hq
            go_wp2
            go_roundw
            case rel => exact ⟨k + 1, by omega, by go_num, by first | rfl | trivial⟩
            case measure => simp [intOf]; omega
    · have hbt : bb = true := hor.elim (fun h => by cases h) fun h => h.2
      subst hbt
      obtain ⟨d2, e2⟩ : decide (db ≤ 0) = false ∧ ¬ db ≤ 0 := by
        rcases hcb with ⟨_, h⟩ | ⟨h, _⟩ | ⟨h, _⟩
        · exact h
        · cases h
        · cases h
      clear hor hcb
      rcases hmm with ⟨c1, m1, c2, m2⟩ | ⟨c1, m1, c2, m2⟩ | ⟨c1, m1⟩
      · go_wp2_with fail
        refine CE4.out.mono ?_
        rintro e W6 ⟨rfl, hE6⟩
        have hE6 : Ext W5 W6 := hE6
        have hsm : (List.find? (overB M mn mb) (overL M s)).isSome = true := HMORE.out m1 m2
        rw [hsm]
        have HEE := Lib.hid hE6
        generalize excP (List.find? (overB M mn mb) (overL M s)) = px
        clear hsm HMORE hE6
        obtain ⟨WW, hWW⟩ : ∃ WW, WW = W6 := ⟨_, rfl⟩
        subst hWW
        go_wp2_with fail
        refine (COV.out WW HEE.out).mono ?_
        rintro e W7 ⟨oa, oc, rfl, hst, hE7⟩
        have hE7 : Ext WW W7 := hE7
        have HST := Lib.hid hst
        have HE7 := Lib.hid (HEE.out.trans hE7)
        rw [List.length_map]
        clear hst hE7 COV CE4
        go_wp2
        go_loopw [25] (fun i wr => ∃ k : Nat, k ≤ j0 ∧ i = .int .i64 k ∧ wr = W7) (fun i _ => j0 + 1 - (intOf i).toNat)
        case atStart => exact ⟨0, Nat.zero_le _, rfl, rfl⟩
        case round =>
          obtain ⟨k, hk, rfl, rfl⟩ := hrel
          have hkl : k < (overL M s).length := by omega
          obtain ⟨q, hq⟩ : ∃ q, ((overL M s).map (·.path))[k]? = some q := ⟨_, List.getElem?_eq_getElem (by rw [List.length_map]; exact hkl)⟩
          obtain ⟨b7, o7, rfl, hb7, hc7⟩ := HST.out k q hq
          by_cases he : q.toList = p1.toList
          · have e1 : (q.toList == p1.toList) = true := by simpa using he
            have HX := Lib.hid (HFIN.out wr HE7.out)
            clear HFIN hq HJ
            go_wp2
            go_ret
            exact ⟨by first | rfl | simp, HX.out⟩
          · have e1 : (q.toList == p1.toList) = false := by simpa using he
            have hne : k ≠ j0 := fun h => by
              subst h
              rw [HJ.out] at hq
              exact he (by rw [Option.some.inj hq])
            clear hq
            go_wp2
            go_roundw
            case rel => exact ⟨k + 1, by omega, by go_num, by first | rfl | trivial⟩
            case measure => simp [intOf]; omega
      · have HEE := Lib.hid (Ext.refl W5)
        obtain ⟨WW, hWW⟩ : ∃ WW, WW = W5 := ⟨_, rfl⟩
        subst hWW
        clear HMORE
        go_wp2_with fail
        refine (COV.out WW HEE.out).mono ?_
        rintro e W7 ⟨oa, oc, rfl, hst, hE7⟩
        have hE7 : Ext WW W7 := hE7
        have HST := Lib.hid hst
        have HE7 := Lib.hid (HEE.out.trans hE7)
        rw [List.length_map]
        clear hst hE7 COV CE4
        go_wp2
        go_loopw [25] (fun i wr => ∃ k : Nat, k ≤ j0 ∧ i = .int .i64 k ∧ wr = W7) (fun i _ => j0 + 1 - (intOf i).toNat)
        case atStart => exact ⟨0, Nat.zero_le _, rfl, rfl⟩
        case round =>
          obtain ⟨k, hk, rfl, rfl⟩ := hrel
          have hkl : k < (overL M s).length := by omega
          obtain ⟨q, hq⟩ : ∃ q, ((overL M s).map (·.path))[k]? = some q := ⟨_, List.getElem?_eq_getElem (by rw [List.length_map]; exact hkl)⟩
          obtain ⟨b7, o7, rfl, hb7, hc7⟩ := HST.out k q hq
          by_cases he : q.toList = p1.toList
          · have e1 : (q.toList == p1.toList) = true := by simpa using he
            have HX := Lib.hid (HFIN.out wr HE7.out)
            clear HFIN hq HJ
            go_wp2
            go_ret
            exact ⟨by first | rfl | simp, HX.out⟩
          · have e1 : (q.toList == p1.toList) = false := by simpa using he
            have hne : k ≠ j0 := fun h => by
              subst h
              rw [HJ.out] at hq
              exact he (by rw [Option.some.inj hq])
            clear hq
            go_wp2
            go_roundw
            case rel => exact ⟨k + 1, by omega, by go_num, by first | rfl | trivial⟩
            case measure => simp [intOf]; omega
      · have HEE := Lib.hid (Ext.refl W5)
        obtain ⟨WW, hWW⟩ : ∃ WW, WW = W5 := ⟨_, rfl⟩
        subst hWW
        clear HMORE
        go_wp2_with fail
        refine (COV.out WW HEE.out).mono ?_
        rintro e W7 ⟨oa, oc, rfl, hst, hE7⟩
        have hE7 : Ext WW W7 := hE7
        have HST := Lib.hid hst
        have HE7 := Lib.hid (HEE.out.trans hE7)
        rw [List.length_map]
        clear hst hE7 COV CE4
        go_wp2
        go_loopw [25] (fun i wr => ∃ k : Nat, k ≤ j0 ∧ i = .int .i64 k ∧ wr = W7) (fun i _ => j0 + 1 - (intOf i).toNat)
        case atStart => exact ⟨0, Nat.zero_le _, rfl, rfl⟩
        case round =>
          obtain ⟨k, hk, rfl, rfl⟩ := hrel
          have hkl : k < (overL M s).length := by omega
          obtain ⟨q, hq⟩ : ∃ q, ((overL M s).map (·.path))[k]? = some q := ⟨_, List.getElem?_eq_getElem (by rw [List.length_map]; exact hkl)⟩
          obtain ⟨b7, o7, rfl, hb7, hc7⟩ := HST.out k q hq
          by_cases he : q.toList = p1.toList
          · have e1 : (q.toList == p1.toList) = true := by simpa using he
            have HX := Lib.hid (HFIN.out wr HE7.out)
            clear HFIN hq HJ
            go_wp2
            go_ret
            exact ⟨by first | rfl | simp, HX.out⟩
          · have e1 : (q.toList == p1.toList) = false := by simpa using he
            have hne : k ≠ j0 := fun h => by
              subst h
              rw [HJ.out] at hq
              exact he (by rw [Option.some.inj hq])
            clear hq
            go_wp2
            go_roundw
            case rel => exact ⟨k + 1, by omega, by go_num, by first | rfl | trivial⟩
            case measure => simp [intOf]; omega
end Go.Proofs.YtamolbegmkngdaaGreatDoor
