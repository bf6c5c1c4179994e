/- The law TreeNils, walked. -/
import Derived.Test.YtamolbegmkngdaaGreatDoorJTreeNils10
import Derived.Test.YtamolbegmkngdaaGreatDoorJTreeNils7
namespace Go.Proofs.YtamolbegmkngdaaGreatDoor
open Go.RowKit Go.Sort
set_option maxHeartbeats 8000000
set_option maxRecDepth 100000
attribute [local go_sem] Oper.semAt_some

section
variable {F : Fence} {n : Nat} {P : Program} {ops : Array Oper} {Q : Exit → Act → World → Prop} {a : Act} {w : World} {rest : List Oper} {o : Oper}
theorem wpListIn_load_row_g (hF : ∀ f, F.fn f) (hw : Region.wanted o (yielded ops a.tmps) = true) (ty : TypeId) (x : Operand) (ho : o.op = .load ty x) (g : Nat) (hx : a.eval x = .pointer (some ⟨g, 0, none⟩)) (t : TypeId) (cs : Array Value) (fr : Nat × Nat) (d : TypeDesc) (hg : w.heap[g]? = some (.cells cs t fr))
    (hu : P.underlying ty = some d) (hd : (match d with | .struct _ | .array _ _ => true | _ => false) = true) (hi : (P.info? ty).map (·.size) = some cs.size)
    (hK : wpListIn F n P ops Q rest (a.put o.dst (.agg cs)) w) : wpListIn F n P ops Q (o :: rest) a w := by
  rw [wpListIn, if_pos hw]
  refine ⟨fun _ _ => hF _, ?_⟩
  rw [Oper.semAt_eq _ _ _ (fun c h => by rw [ho] at h; cases h), ex_load_row ho g hx t cs fr d hg hu hd hi]
  exact hK
theorem wpListIn_store_one (hF : ∀ f, F.fn f) (hgd : o.guard = none) (ty : TypeId) (x y : Operand) (ho : o.op = .store ty x y) (g : Nat) (v : Value) (hx : a.eval x = .pointer (some ⟨g, 0, none⟩)) (hy : a.eval y = v) (h1 : v.oneCell' = true) (t : TypeId) (old : Value) (hg : w.heap[g]? = some (.cells #[old] t (0, 0))) (hi : (P.info? ty).map (·.size) = some 1)
    (hK : wpListIn F n P ops Q rest (a.put o.dst undef) (w.setRow g #[v])) : wpListIn F n P ops Q (o :: rest) a w :=
  wpListIn_skipped hF hgd (fun c h => by rw [ho] at h; cases h) (run_store_one ty x y ho g v hx hy h1 t old hg hi) hK
end

/-- What stays while nothing is told. -/
structure NI (w W0 W : World) : Prop where
  keep : Below w.heap.size w W
  size : W0.heap.size ≤ W.heap.size
  rows : ∀ (k : Nat) (c : Array Value) (e : TypeId) (f : Nat × Nat), W0.heap[k]? = some (Obj.cells c e f) → W.heap[k]? = some (Obj.cells c e f)
theorem NI.turn {w W0 X Y : World} {B : Nat} (h : NI w W0 X) (hT : Turn B X Y) (hB : w.heap.size ≤ B) : NI w W0 Y :=
  ⟨h.keep.trans (hT.below hB h.keep.size), Nat.le_trans h.size hT.size, fun k c e f hc => hT.cells (h.rows k c e f hc)⟩
theorem NI.cell {w W0 W : World} (h : NI w W0 W) {a : Addr} {u : Value} (hu : W0.cell? a = some u) : W.cell? a = some u := by
  obtain ⟨c, e, f, hk⟩ := cell_cells hu
  rw [World.cell?_of_block ((h.rows _ _ _ _ hk).trans hk.symm)]
  exact hu

theorem nils_walk (n : Nd) (da aa : Option Addr) (dc ac : Nat) (s : ByteArray) (z : Int) (w : World) (hT : Tabs w) :
    Calls Tryz.prog 10 #[.agg (ndC n (.slice da n.data.length dc) (.slice aa n.acl.length ac)), .string s, .int .i64 z] w fun e w' => e = .returned (.bool true) ∧ Below w.heap.size w w' := by
  have hsz := hT.size
  obtain ⟨W2, hW2⟩ : ∃ W2, W2 = (w.alloc (.cells (ndC n (.slice da n.data.length dc) (.slice aa n.acl.length ac)) 47)).alloc (.cells #[.bool false] 4) := ⟨_, rfl⟩
  have hE2 : Ext w W2 := by rw [hW2]; exact (Ext.alloc w _).trans (Ext.alloc _ _)
  have hz2 : W2.heap.size = w.heap.size + 1 + 1 := by rw [hW2]; simp
  have hn2 : W2.heap[w.heap.size]? = some (.cells (ndC n (.slice da n.data.length dc) (.slice aa n.acl.length ac)) 47 (0, 0)) := by rw [hW2]; exact heap_alloc2_old w _ _
  have hr2 : W2.heap[w.heap.size + 1]? = some (.cells #[.bool false] 4 (0, 0)) := by rw [hW2]; exact heap_alloc2_new w _ _
  have HW2 := Lib.hid hW2
  have HE2 := Lib.hid hE2
  have HN2 := Lib.hid hn2
  have HR2 := Lib.hid hr2
  have HT := Lib.hid hT
  unfold ndC at HW2 ⊢
  clear hW2 hE2 hn2 hr2 hT
  refine (callsIn_wide (n := 6)).1 (callsIn_of_wp_marks Tryz.func10 rfl trivial ?_)
  simp only [Tryz.ntmps10, List.size_toArray, List.length_cons, List.length_nil, Nat.reduceAdd, Nat.reduceSub, Array.replicate_succ, Array.replicate_zero, List.push_toArray, List.append_toArray, List.nil_append, List.cons_append]
  gi_wp2_with fail
  rw [← HW2.out]
  refine ⟨trivial, (callsIn_wide.2 (tget_nil s _)).mono ?_⟩
  rintro e w3 ⟨rfl, hE3⟩
  have hS3 := Lib.hid (setRow_self w3 zeroNd 47)
  have hN3 := Lib.hid (heap_alloc_new w3 (.cells zeroNd 47))
  have HE3 := Lib.hid (hE3.trans (Ext.alloc w3 (.cells zeroNd 47)))
  unfold zeroNd at hS3 hN3 HE3 ⊢
  clear hE3
  gi_wp2_with (refine wpListIn_store_row (fun _ => trivial) rfl 47 (.tmp 8) (.tmp 25) rfl w3.heap.size _ rfl rfl 47 _ hN3.out sizeNd rfl zeroNd_one ?_; rw [hS3.out])
  refine ⟨trivial, (callsIn_wide.2 (tstat_nil s _)).mono ?_⟩
  rintro e w4 ⟨rfl, hE4⟩
  have hS4 := Lib.hid (setRow_self w4 zeroStat 93)
  have hN4 := Lib.hid (heap_alloc_new w4 (.cells zeroStat 93))
  have HE4 := Lib.hid (HE3.out.trans (Ext.trans hE4 (Ext.alloc w4 (.cells zeroStat 93))))
  unfold zeroStat at hS4 hN4 HE4 ⊢
  clear hE4 hS3 hN3
  gi_wp2_with (refine wpListIn_store_row (fun _ => trivial) rfl 93 (.tmp 10) (.tmp 31) rfl w4.heap.size _ rfl rfl 93 _ hN4.out sizeStat rfl zeroStat_one' ?_; rw [hS4.out])
  refine ⟨trivial, (callsIn_wide.2 (tchildren_nil s _)).mono ?_⟩
  rintro e w5 ⟨rfl, hE5⟩
  have HE5 := Lib.hid (HE4.out.trans hE5)
  clear hE5 hS4 hN4
  gi_wp2_with fail
  refine ⟨trivial, (callsIn_wide.2 (tafter_nil s _)).mono ?_⟩
  rintro e w6 ⟨rfl, hE6⟩
  have hS6 := Lib.hid (setRow_self w6 zeroNd 47)
  have hN6 := Lib.hid (heap_alloc_new w6 (.cells zeroNd 47))
  have HE6 := Lib.hid (HE5.out.trans (Ext.trans hE6 (Ext.alloc w6 (.cells zeroNd 47))))
  unfold zeroNd at hS6 hN6 HE6 ⊢
  clear hE6
  gi_wp2_with (refine wpListIn_store_row (fun _ => trivial) rfl 47 (.tmp 14) (.tmp 43) rfl w6.heap.size _ rfl rfl 47 _ hN6.out sizeNd rfl zeroNd_one ?_; rw [hS6.out])
  refine ⟨trivial, (callsIn_wide.2 (tweigh_nil s _)).mono ?_⟩
  rintro e w7 ⟨rfl, hE7⟩
  have HE7 := Lib.hid (HE6.out.trans hE7)
  clear hE7 hS6 hN6
  gi_wp2_with fail
  refine ⟨trivial, (callsIn_wide.2 (tall_nil _)).mono ?_⟩
  rintro e w8 ⟨bw, btb, rfl, hcw, hE8⟩
  have HE8 := Lib.hid (HE7.out.trans hE8)
  have HCW := Lib.hid hcw
  clear hE8 hcw
  gi_wp2_with fail
  refine ⟨trivial, (callsIn_wide.2 (tbelow_nil s _)).mono ?_⟩
  rintro e w9 ⟨cx, cy, bw2, btb2, rfl, hcw2, hcx, hcy, hE9⟩
  have hE9 : Ext w8 w9 := hE9
  have hcw9 := (hE9.cell (p := ⟨bw, 0, none⟩) (World.block_lt_of_cell? _ _ HCW.out)).trans HCW.out
  have hnn := told_not_nil #[.pointer (some ⟨bw, 0, none⟩), .pointer (some ⟨btb, 0, none⟩)] w9
  have hnn2 := told_not_nil #[.pointer (some ⟨bw2, 0, none⟩), .pointer (some ⟨btb2, 0, none⟩)] w9
  have hE29 := HE8.out.trans hE9
  have hEw9 := HE2.out.trans hE29
  have TT := told_tells_nil (fun _ _ => True) w9 bw btb 122 #[.pointer none] #[] hcw9 (enters_of Tryz.func122 (by kernel_rfl) rfl)
    (fun W _ => (show Calls Tryz.prog 122 #[.pointer none] W _ from (sorted_nil W).mono fun e w' h => by obtain ⟨rfl, rfl⟩ := h; exact ⟨rfl, Ext.refl _⟩))
  have TT := Lib.hid TT
  have hz9 := hEw9.size
  have hI0 : NI w w9 w9 := ⟨hEw9, Nat.le_refl _, fun _ _ _ _ h => h⟩
  have HI0 := Lib.hid hI0
  have HCX := Lib.hid hcx
  have HCY := Lib.hid hcy
  have HCW2 := Lib.hid hcw2
  have HE29 := Lib.hid hE29
  clear hcw2 hcx hcy hE9 hcw9 hE29 hEw9 hI0 HCW
  gi_wp2
  refine wpIn_tells rfl (by omega) (gf := 159) (lb := #[.pointer (some ⟨bw, 0, none⟩), .pointer (some ⟨btb, 0, none⟩)]) rfl trivial (enters_of Tryz.func159 (by kernel_rfl) rfl) TT.out (fun _ => rfl)
    (fun _ W => NI w w9 W) (fun _ _ _ => False) (fun _ _ _ => True) (fun A X Y B h1 h2 h3 => ⟨Nat.le_trans h1.size (Nat.le_trans h2.1 h3.size), fun k c e f hc _ => ⟨h3.cells (h2.2 k c e f (h1.cells hc) trivial).1, trivial⟩⟩) ?hI ?hIx ?hG (fun _ _ _ _ h _ => h) HI0.out ?assign ?body ?done ?stop
  case hI => exact fun pre X Y h hTn => ⟨h.turn hTn (by omega), fun _ _ => trivial, fun _ _ => trivial⟩
  case hIx => exact fun _ _ _ _ h _ => h
  case hG =>
    intro x X Y h hTn
    exact NdS.imp h (fun b hb => ⟨trivial, Nat.lt_of_lt_of_le hb.2 hTn.size⟩) fun _ _ _ _ hu => hTn.cell hu
  case assign =>
    intro l pre x W K hI hG hK
    have HK := Lib.hid hK
    clear hK hG hI TT HI0
    gi_wp2
    exact HK.out _ _ (Ext.refl _) trivial
  case body =>
    rintro l pre x a' W hl0 _ ⟨rest, hSp⟩ _ _ _
    exfalso
    simp at hSp
  case stop => exact fun _ _ _ _ _ _ h => h.elim
  case done =>
    rintro D xs W hD hS hI hK
    have HIW := Lib.hid hI
    have HKW := Lib.hid hK
    have hDl := (Array.getElem?_eq_some_iff.1 hK).1
    have hzW := hI.size
    have hcwW := hI.cell HCW2.out
    have TT2 := told_tells_nil (fun _ _ => True) W bw2 btb2 123 #[] #[.pointer (some ⟨cx, 0, none⟩), .pointer (some ⟨cy, 0, none⟩)] hcwW (enters_of Tryz.func123 (by kernel_rfl) rfl)
      (fun V hV => below1_nil s cx cy V ((hV.cell (p := ⟨cx, 0, none⟩) (World.block_lt_of_cell? _ _ (hI.cell HCX.out))).trans (hI.cell HCX.out)) ((hV.cell (p := ⟨cy, 0, none⟩) (World.block_lt_of_cell? _ _ (hI.cell HCY.out))).trans (hI.cell HCY.out)))
    have TT2 := Lib.hid TT2
    clear hS hI hK hcwW TT HI0
    gi_wp2
    refine wpIn_tells rfl (by omega) (gf := 159) (lb := #[.pointer (some ⟨bw2, 0, none⟩), .pointer (some ⟨btb2, 0, none⟩)]) rfl trivial (enters_of Tryz.func159 (by kernel_rfl) rfl) TT2.out (fun _ => rfl)
      (fun _ V => NI w w9 V ∧ V.heap[D]? = some (.deferred (some []))) (fun _ _ _ => False) (fun _ _ _ => True) (fun A X Y B h1 h2 h3 => ⟨Nat.le_trans h1.size (Nat.le_trans h2.1 h3.size), fun k c e f hc _ => ⟨h3.cells (h2.2 k c e f (h1.cells hc) trivial).1, trivial⟩⟩) ?hI2 ?hIx2 ?hG2 (fun _ _ _ _ h _ => h) ⟨HIW.out, HKW.out⟩ ?assign2 ?body2 ?done2 ?stop2
    case hI2 => exact fun pre X Y h hTn => ⟨⟨h.1.turn hTn (by omega), hTn.same D _ h.2 (.inl hDl)⟩, fun _ _ => trivial, fun _ _ => trivial⟩
    case hIx2 => exact fun _ _ _ _ h _ => h
    case hG2 =>
      intro x X Y h hTn
      exact NdS.imp h (fun b hb => ⟨trivial, Nat.lt_of_lt_of_le hb.2 hTn.size⟩) fun _ _ _ _ hu => hTn.cell hu
    case assign2 =>
      intro l pre x V K hI hG hK
      have HK := Lib.hid hK
      clear hK hG hI TT2
      gi_wp2
      exact HK.out _ _ (Ext.refl _) trivial
    case body2 =>
      rintro l pre x a' V hl0 _ ⟨rest, hSp⟩ _ _ _
      exfalso
      simp at hSp
    case stop2 => exact fun _ _ _ _ _ _ h => h.elim
    case done2 =>
      rintro D2 xs Y hD2 hS2 ⟨hIY, hKY⟩ hK2
      clear HW2 HE3 HE4 HE6
      generalize (Value.agg #[.string ⟨#[]⟩, .slice none 0 0, .slice none 0 0, .int .i64 0, .int .i64 0, .int .i64 0, .int .i64 0, .int .i64 0, .int .i64 0, .int .i64 0, .int .i64 0, .int .i32 0, .int .i32 0, .int .i32 0, .bool false, .int .i64 0, .int .i64 0]) = vz
      generalize (Value.agg #[.int .i64 0, .int .i64 0, .int .i64 0, .int .i64 0, .int .i32 0, .int .i32 0, .int .i32 0, .int .i64 0, .int .i32 0, .int .i32 0, .int .i64 0]) = vs
      generalize (Value.agg #[.string n.path, .slice da n.data.length dc, .slice aa n.acl.length ac, .int .i64 n.owner, .int .i64 n.czxid, .int .i64 n.mzxid, .int .i64 n.pzxid, .int .i64 n.azxid, .int .i64 n.qzxid, .int .i64 n.ctime, .int .i64 n.mtime, .int .i32 n.version, .int .i32 n.creates, .int .i32 n.aversion, .bool n.has, .int .i64 n.count, .int .i64 n.bytes]) = vn
      have hbY : Y.heap[w.heap.size]? = some (.cells (ndC n (.slice da n.data.length dc) (.slice aa n.acl.length ac)) 47 (0, 0)) := hIY.rows _ _ _ _ ((HE29.out.block _ (by omega)).trans HN2.out)
      have hrY : Y.heap[w.heap.size + 1]? = some (.cells #[.bool false] 4 (0, 0)) := hIY.rows _ _ _ _ ((HE29.out.block _ (by omega)).trans HR2.out)
      have hzY := hIY.size
      have hz29 := HE29.out.size
      have hD2l := (Array.getElem?_eq_some_iff.1 hK2).1
      have HIY := Lib.hid hIY
      have HKY := Lib.hid hKY
      have HK2 := Lib.hid hK2
      have HBY := Lib.hid hbY
      have HRY := Lib.hid hrY
      have hxY : Box Y w.heap.size (ndC n (.slice da n.data.length dc) (.slice aa n.acl.length ac)) := fun j => cell_of_row _ _ _ _ _ _ hbY
      have hbY' := hbY
      unfold ndC at hbY'
      have HBYu := Lib.hid hbY'
      clear hbY'
      clear hxY hbY hrY hIY hKY hK2 hS2 TT2 HIW HKW
      repeat (first | (refine wpListIn_load_row_g (fun _ => trivial) rfl 47 (.tmp 3) rfl w.heap.size rfl 47 _ (0, 0) _ HBYu.out Tryz.underlying47 rfl sizeNd ?_) | go_values | gi_guarded | gi_step | gi_upon | gi_back | (simp only [Int.not_lt, Int.not_le] at *; go_simp))
      refine ⟨trivial, (callsIn_wide.2 (tadd_nil _ _ rfl)).mono ?_⟩
      rintro e y1 ⟨rfl, hE1⟩
      try generalize (Value.agg #[.string n.path, .slice da n.data.length dc, .slice aa n.acl.length ac, .int .i64 n.owner, .int .i64 n.czxid, .int .i64 n.mzxid, .int .i64 n.pzxid, .int .i64 n.azxid, .int .i64 n.qzxid, .int .i64 n.ctime, .int .i64 n.mtime, .int .i32 n.version, .int .i32 n.creates, .int .i32 n.aversion, .bool n.has, .int .i64 n.count, .int .i64 n.bytes]) = vn1
      have hE1 : Ext Y y1 := hE1
      have hx1 : Box y1 w.heap.size (ndC n (.slice da n.data.length dc) (.slice aa n.acl.length ac)) := fun j => cell_of_row _ _ _ _ _ _ ((hE1.block _ (by omega)).trans HBY.out)
      have hb1 := (hE1.block _ (by omega)).trans HBYu.out
      have HB1 := Lib.hid hb1
      have HE1 := Lib.hid hE1
      clear hE1 hb1 hx1
      repeat (first | (refine wpListIn_load_row_g (fun _ => trivial) rfl 47 (.tmp 3) rfl w.heap.size rfl 47 _ (0, 0) _ HB1.out Tryz.underlying47 rfl sizeNd ?_) | go_values | gi_guarded | gi_step | gi_upon | gi_back | (simp only [Int.not_lt, Int.not_le] at *; go_simp))
      refine ⟨trivial, (callsIn_wide.2 (tput_nil _ _ rfl)).mono ?_⟩
      rintro e y2 ⟨rfl, hE2⟩
      generalize (Value.agg #[.string n.path, .slice da n.data.length dc, .slice aa n.acl.length ac, .int .i64 n.owner, .int .i64 n.czxid, .int .i64 n.mzxid, .int .i64 n.pzxid, .int .i64 n.azxid, .int .i64 n.qzxid, .int .i64 n.ctime, .int .i64 n.mtime, .int .i32 n.version, .int .i32 n.creates, .int .i32 n.aversion, .bool n.has, .int .i64 n.count, .int .i64 n.bytes]) = vn2
      have HE2y := Lib.hid (HE1.out.trans hE2)
      clear hE2
      gi_wp2_with fail
      refine ⟨trivial, (callsIn_wide.2 (trem_nil s _)).mono ?_⟩
      rintro e y3 ⟨rfl, rfl⟩
      gi_wp2_with fail
      refine ⟨trivial, (callsIn_wide.2 (tclone_nil _)).mono ?_⟩
      rintro e y3 ⟨rfl, rfl⟩
      gi_wp2_with fail
      refine ⟨trivial, (callsIn_wide.2 (tcount_nil _)).mono ?_⟩
      rintro e y3 ⟨rfl, rfl⟩
      gi_wp2_with fail
      refine ⟨trivial, (callsIn_wide.2 (towned_nil z _)).mono ?_⟩
      rintro e y3 ⟨rfl, hE3⟩
      have HE3y := Lib.hid (HE2y.out.trans hE3)
      clear hE3
      gi_wp2_with fail
      refine ⟨trivial, (callsIn_wide.2 (tidle_nil _)).mono ?_⟩
      rintro e y4 ⟨rfl, hE4⟩
      have HE4y := Lib.hid (HE3y.out.trans hE4)
      clear hE4
      gi_wp2_with fail
      refine ⟨trivial, (callsIn_wide.2 (taged_nil z _)).mono ?_⟩
      rintro e y5 ⟨rfl, hE5⟩
      have HE5y := Lib.hid (HE4y.out.trans hE5)
      clear hE5
      gi_wp2_with fail
      refine ⟨trivial, (callsIn_wide.2 (same_nil _)).mono ?_⟩
      rintro e y6 ⟨rfl, rfl⟩
      gi_wp2_with fail
      refine ⟨trivial, (callsIn_wide.2 (new_any _)).mono ?_⟩
      rintro e y6 ⟨bt, rfl, _, hE6⟩
      have HE6y := Lib.hid (HE5y.out.trans hE6)
      clear hE6
      gi_wp2_with fail
      refine ⟨trivial, (callsIn_wide.2 (same_nil_x bt _)).mono ?_⟩
      rintro e y7 ⟨rfl, rfl⟩
      have hTy : Tabs y6 := HT.out.below (HIY.out.keep.trans (Below.mono HE6y.out HIY.out.keep.size)) hsz
      have CA := Lib.hid (alive_any y6 hTy)
      gi_wp2_with fail
      refine ⟨trivial, (callsIn_wide.2 CA.out).mono ?_⟩
      rintro e Z ⟨rfl, hE7⟩
      have hEZ : Ext Y Z := HE6y.out.trans hE7
      have hreZ := (hEZ.block _ (by omega)).trans HRY.out
      have hKZ := (hEZ.block _ (Array.getElem?_eq_some_iff.1 HKY.out).1).trans HKY.out
      have hK2Z := (hEZ.block _ hD2l).trans HK2.out
      have hBZ : Below w.heap.size w Z := HIY.out.keep.trans (Below.mono hEZ HIY.out.keep.size)
      have hK2r : (Z.setRow (w.heap.size + 1) #[.bool true]).heap[D2]? = some (.deferred (some [])) := (setRow_other _ _ _ _ (by omega)).trans hK2Z
      have hKr : ((Z.setRow (w.heap.size + 1) #[.bool true]).putObj D2 (.deferred none)).heap[D]? = some (.deferred (some [])) := (World.putObj_heap_other (by omega)).trans ((setRow_other _ _ _ _ (by omega)).trans hKZ)
      have hTT := (Turn.putObj (B := w9.heap.size) (.deferred none) (by omega) hK2r rfl).trans (Turn.putObj (B := w9.heap.size) (.deferred none) hD hKr rfl)
      have hcl := hTT.cell (cell_of_row _ _ 0 _ _ _ (setRow_heap _ _ _ #[.bool true] _ _ hreZ))
      have hBr : Below w.heap.size w (Z.setRow (w.heap.size + 1) #[.bool true]) := hBZ.trans ⟨rfl, rfl, rfl, by simp, fun k hk => setRow_other _ _ _ _ (by omega)⟩
      have hBe := hBr.trans (hTT.below (by omega) hBr.size)
      have HCL := Lib.hid hcl
      have HBE := Lib.hid hBe
      have HK2r := Lib.hid hK2r
      have HKr := Lib.hid hKr
      have HREZ := Lib.hid hreZ
      clear hcl hBe hK2r hKr hreZ hTT hBr hKZ hK2Z hBZ hEZ hE7 CA hTy
      gi_wp2_with (refine wpListIn_store_one (fun _ => trivial) rfl 4 (.tmp 6) (.tmp 144) rfl (w.heap.size + 1) (.bool true) rfl rfl rfl 4 _ HREZ.out infoBool ?_)
      refine ⟨by simp, .inl ⟨_, _, rfl, run_takeDeferred HK2r.out, by simp, .inl ⟨_, _, rfl, run_takeDeferred HKr.out, ?_⟩⟩⟩
      exact ⟨_, results_cell_bool rfl _ _ (w.heap.size + 1) (.bool true) rfl HCL.out Tryz.underlying4, rfl, HBE.out⟩
end Go.Proofs.YtamolbegmkngdaaGreatDoor
