/- The walk of the law's own small tree. -/
import Derived.Test.YtfgjbcejpjcpeaaDoorAll
namespace Go.Proofs.YtfgjbcejpjcpeaaDoor
open Go.RowKit Go.Sort
set_option maxHeartbeats 2000000
set_option maxRecDepth 100000

/-- A node of a path alone. -/
def pN (p : ByteArray) : Nd := ⟨p, [], [], 0, 0, 0, 0, 0, 0, 0, 0, 0, 0, 0, false, 0, 0⟩
def aP : ByteArray := ⟨#[47, 97]⟩
def abP : ByteArray := ⟨#[47, 97, 47, 98]⟩
def aM0 : List (Key × Nd) := [(keyN rootN, rootN)]
def aM1 : List (Key × Nd) := addM aM0 (pN aP)
def aM2 : List (Key × Nd) := addM aM1 (pN abP)
theorem am_1 : addE aM0 (pN abP) = 73 := by decide +kernel
theorem am_2 : addE aM0 (pN aP) = 0 := by decide +kernel
theorem am_3 : addE aM1 (pN abP) = 0 := by decide +kernel
theorem am_4 : addM aM0 (pN abP) = aM0 := by unfold addM; rw [if_neg (by rw [am_1]; decide)]
theorem am_5 : aM2.length = 3 := by decide +kernel
theorem am_6 : remE aM2 aP = 72 := by decide +kernel
theorem am_7 : (kidsOf aM2 ⟨#[47]⟩).map (·.1) = [[97]] := by decide +kernel
theorem am_8 : (mget aM2 [47]).isSome = true := by decide +kernel
theorem am_9 : (mget aM2 abP.data.toList).isSome = true := by decide +kernel
theorem am_10 : ∀ k ∈ aM2.map (·.1), k.length ≤ 9 := by decide +kernel
theorem am_12 : ((nodesOf aM2 (aM2.map (·.1))).take (9 + 1)).length = 3 := by decide +kernel
theorem am_11 : remM aM2 aP = aM2 := by unfold remM; rw [if_neg (by rw [am_6]; decide)]

/-- A tree of the walk's own blocks. -/
def Own (B : Nat) (w : World) (bt : Nat) (M : List (Key × Nd)) (N : Nat) : Prop := TreeAt (fun k => B ≤ k ∧ k < w.heap.size) w bt M N
theorem own_to {B : Nat} {w w' : World} {bt : Nat} {M : List (Key × Nd)} {N : Nat} {v : Value} {e : Ending} (hB : B ≤ w.heap.size) (h : TreeTo (fun k => B ≤ k ∧ k < w.heap.size) w bt M N v e w') : e = .returned v ∧ Own B w' bt M N ∧ Below B w w' := by
  obtain ⟨h1, h2, h3⟩ := h
  have hs := h3.size
  exact ⟨h1, h2.keep (fun _ _ => rfl) (fun k hk => hk.elim (fun h => ⟨h.1, by omega⟩) (fun h => ⟨by omega, h.2⟩)) (fun k hk => hk.2) (Nat.le_refl _), h3.below (fun k hk => hk.1) hB⟩
theorem Own.ext {B : Nat} {w w' : World} {bt : Nat} {M : List (Key × Nd)} {N : Nat} (h : Own B w bt M N) (he : Ext w w') : Own B w' bt M N :=
  (TreeAt.ext h he).keep (fun _ _ => rfl) (fun _ hk => ⟨hk.1, Nat.lt_of_lt_of_le hk.2 he.size⟩) (fun _ hk => hk.2) (Nat.le_refl _)

theorem pN_fit (p : ByteArray) (hp : p.size ≤ 4) : Fit (pN p) := ⟨by simp [pN]; omega, by simp [pN], by simp [pN], fun x hx => by simp [pN] at hx⟩

theorem kids_one : ((kidsOf aM2 ⟨#[47]⟩).map fun x => encStr x.1) = [.string ⟨#[97]⟩] ∧ (kidsOf aM2 ⟨#[47]⟩).length = 1 := by
  have h := am_7
  constructor
  · have : ((kidsOf aM2 ⟨#[47]⟩).map fun x => encStr x.1) = ((kidsOf aM2 ⟨#[47]⟩).map (·.1)).map encStr := by simp
    rw [this, h]; rfl
  · have := congrArg List.length h
    simpa using this

theorem addp_any {B : Nat} {w : World} {bt : Nat} {M : List (Key × Nd)} {N : Nat} (h : Own B w bt M N) (hB : B ≤ w.heap.size) (hu : Tabs w) (p : ByteArray) (hp : p.size ≤ 4) (hN : N < 100) (r : Int) (M' : List (Key × Nd)) (hr : addE M (pN p) = r) (hM : addM M (pN p) = M') :
    Calls Tryd.prog 41 #[.pointer (some ⟨bt, 0, none⟩), .agg (ndC (pN p) (.slice none 0 0) (.slice none 0 0))] w fun e w' => e = .returned (.int .i64 r) ∧ Own B w' bt M' (N + 1) ∧ Below B w w' := by
  subst hr hM
  exact (add_any _ w bt M N h (pN p) none none 0 0 hu (pN_fit p hp) (by omega) (fun j u h => by simp [pN] at h) (fun j u h => by simp [pN, acCs] at h)).mono fun e w' hq => own_to hB hq

theorem alive_any (w : World) (hT0 : Tabs w) : Calls Tryd.prog 10 #[] w fun e w' => e = .returned (.bool true) ∧ Ext w w' := by
  have hsz := hT0.size
  have HT0 := Lib.hid hT0
  clear hT0
  go_enter Tryd.func10, Tryd.ntmps10
  go_wp2_with fail
  refine (new_any w).mono ?_
  rintro e w1 ⟨bt, rfl, hT1, hE1⟩
  have C2 := addp_any hT1 hE1.size (HT0.out.below hE1 hsz) abP (by decide) (by omega) _ _ am_1 am_4
  have hz1 := hE1.size
  have hB1 : Below w.heap.size w w1 := hE1
  have HE1 := Lib.hid hB1
  clear hT1 hE1 hB1
  go_wp2_with fail
  refine C2.mono ?_
  rintro e w2 ⟨rfl, hT2, hM2⟩
  have hE2 := HE1.out.trans hM2
  have C3 := addp_any hT2 hE2.size (HT0.out.below hE2 hsz) aP (by decide) (by omega) _ aM1 am_2 rfl
  have hz2 := hE2.size
  have HE2 := Lib.hid hE2
  clear hT2 hE2 hM2 C2
  go_wp2_with fail
  refine C3.mono ?_
  rintro e w3 ⟨rfl, hT3, hM3⟩
  have hE3 := HE2.out.trans hM3
  have C4 := addp_any hT3 hE3.size (HT0.out.below hE3 hsz) abP (by decide) (by omega) _ aM2 am_3 rfl
  have hz3 := hE3.size
  have HE3 := Lib.hid hE3
  clear hT3 hE3 hM3 C3
  go_wp2_with fail
  refine C4.mono ?_
  rintro e w4 ⟨rfl, hT4, hM4⟩
  have hE4 := HE3.out.trans hM4
  have C5 := children_any _ w4 bt aM2 _ hT4 ⟨#[47]⟩ (by decide) (by rw [am_5]; omega)
  have HT4 := Lib.hid hT4
  have hz4 := hE4.size
  have HE4 := Lib.hid hE4
  clear hT4 hE4 hM4 C4
  go_wp2_with fail
  refine C5.mono ?_
  rintro e w5 ⟨v, rfl, hEx, hrow⟩
  have h8 : (mget aM2 (⟨#[47]⟩ : ByteArray).data.toList).isSome = true := am_8
  rw [h8] at hrow ⊢
  rw [if_pos rfl] at hrow ⊢
  rw [kids_one.1, kids_one.2] at hrow
  obtain ⟨ra, rc, rfl, hrows⟩ := ownsRow_from hrow
  obtain ⟨rb, ro, rfl, _, hrb, hr0⟩ := hrows 0 _ rfl
  have hE5 := HE4.out.trans (hEx.mono hz4)
  have C6 := tget_any _ w5 bt aM2 _ (HT4.out.ext hEx) abP (by decide)
  have HT5 := Lib.hid (HT4.out.ext hEx)
  have hz5 := hE5.size
  have HE5 := Lib.hid hE5
  have HR0 := Lib.hid hr0
  clear hE5 hEx hrow hrows C5 hr0
  go_wp2_with fail
  refine C6.mono ?_
  rintro e w6 ⟨v, rfl, hv, hE6⟩
  obtain ⟨da, dc, aa, ac, rfl, _⟩ := hv
  rw [am_9]
  generalize (mget aM2 abP.data.toList).getD zeroN = n at *
  obtain ⟨W7, hW7⟩ : ∃ W7, W7 = w6.alloc (.cells (ndC n (.slice da n.data.length dc) (.slice aa n.acl.length ac)) 37) := ⟨_, rfl⟩
  have HSET := Lib.hid ((setRow_alloc w6 zeroNd (ndC n (.slice da n.data.length dc) (.slice aa n.acl.length ac)) 37).trans hW7.symm)
  have HNew := Lib.hid (heap_alloc_new w6 (.cells zeroNd 37))
  have hx7 : Ext w5 W7 := hE6.trans (by rw [hW7]; exact Ext.alloc _ _)
  have hE7 := HE5.out.trans (hx7.mono hz5)
  have hr7 : W7.cell? ⟨rb, ro + 0, none⟩ = some (.string ⟨#[97]⟩) := (hx7.cell (p := ⟨rb, ro + 0, none⟩) hrb).trans HR0.out
  rw [Nat.add_zero] at hr7
  have hT7 := HT5.out.ext hx7
  have C8 := tcount_any _ W7 bt aM2 _ hT7
  rw [am_5, show ((3 : Nat) : Int) = 3 from rfl] at C8
  have C9 := rem_any _ W7 bt aM2 _ hT7 aP (by decide) (by omega)
  rw [am_6, am_11] at C9
  have hz7 := hE7.size
  have HE7 := Lib.hid hE7
  have HT7 := Lib.hid hT7
  unfold ndC at HSET ⊢
  unfold zeroNd at HSET HNew
  clear hE6 hW7 hx7 hE7 hT7 C6 HR0
  go_wp2_with (refine wpList_store_row rfl 37 (.tmp 4) (.tmp 35) rfl w6.heap.size _ rfl rfl 37 _ HNew.out sizeNd rfl (cells_node n da aa _ _ dc ac) ?_; rw [HSET.out])
  refine C8.mono ?_
  rintro e w8 ⟨rfl, hw8⟩
  subst hw8
  clear C8 HNew HSET
  go_wp2_with fail
  refine C9.mono ?_
  intro e w9 hq
  obtain ⟨rfl, hT9, hM9⟩ := own_to hz7 hq
  have hE9 := HE7.out.trans hM9
  have C10 := lall_any _ w9 bt aM2 _ hT9 9 (by unfold maxLen; omega) (by rw [am_5]; omega) (fun k hk => by have := am_10 k hk; unfold maxLen; omega)
  have hz9 := hE9.size
  have HE9 := Lib.hid hE9
  clear hq hT9 hM9 hE9 C9
  go_wp2_with fail
  refine C10.mono ?_
  rintro e w10 ⟨v, vs, rfl, hvl, hrow, _, hE10⟩
  rw [am_12] at hrow
  obtain ⟨ra, rc, rfl, _⟩ := ownsRow_from hrow
  have hE10 := HE9.out.trans (hE10.mono hz9)
  have HE10 := Lib.hid hE10
  clear hrow hE10 C10 hvl
  go_wp2
  go_ret
  exact ⟨rfl, HE10.out⟩
end Go.Proofs.YtfgjbcejpjcpeaaDoor
