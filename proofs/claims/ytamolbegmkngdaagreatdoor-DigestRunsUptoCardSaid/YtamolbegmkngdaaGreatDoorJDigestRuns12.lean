/- The walk of arborref07's Insert. The walk of arborref09's Of. The walks of arborref03's last and Parent. The walk of arborref07.From. The walks of a book's functions: NewBook, Note, Len. The walk of layer 9's alive; the first note in a book. The walk of layer 9's alive. What is under a path: itself and what is under its children. -/
import Derived.Test.YtamolbegmkngdaaGreatDoorJDigestRuns11
import Derived.Test.YtamolbegmkngdaaGreatDoorJDigestRuns7
import Derived.Test.YtamolbegmkngdaaGreatDoorJDigestRuns9
import Derived.Test.YtamolbegmkngdaaGreatDoorJDigestRuns8
import Derived.Test.YtamolbegmkngdaaGreatDoorJDigestRuns10
import Derived.Test.YtamolbegmkngdaaGreatDoorJDigestRuns4
namespace Go.Proofs.YtamolbegmkngdaaGreatDoor
open Go.RowKit
set_option maxHeartbeats 2000000
set_option maxRecDepth 100000

/-- The document's tree, its rows in whatever blocks but its own. -/
def RT (w : World) (b : Nat) (L : List Nd) : Prop := RTree (fun k => k < w.heap.size ∧ k ≠ b) w b L
theorem RTree.rt {S : Nat → Prop} {w : World} {b : Nat} {L : List Nd} (h : RTree S w b L) : RT w b L := h.keep h.bound rfl (fun _ _ => rfl) fun _ h => h
theorem RT.ext {w w' : World} {b : Nat} {L : List Nd} (h : RT w b L) (he : Ext w w') : RT w' b L := (RTree.ext h he).rt
theorem RT.lt {w : World} {b : Nat} {L : List Nd} (h : RT w b L) : b < w.heap.size := RTree.lt h

set_option maxHeartbeats 4000000 in
theorem rinsert_any (w : World) (b : Nat) (L : List Nd) (n : Nd) (da aa : Option Addr) (dc ac : Nat) (hR : RT w b L) (hfL : ∀ m ∈ L, Fit m) (hf : Fit n) (hD : Cells w.heap.size w da (n.data.map u8v)) (hA : Cells w.heap.size w aa (acCs n.acl)) (hl : (L.length + 1) * 168 ≤ 140737488355328) :
    Calls Tryz.prog 75 #[.pointer (some ⟨b, 0, none⟩), .agg (ndC n (.slice da n.data.length dc) (.slice aa n.acl.length ac))] w fun e w' => e = .returned (.tuple #[]) ∧ RT w' b (L.take (rfind L n.path).1 ++ n :: L.drop (rfind L n.path).1) ∧ Chg (· = b) w w' := by
  obtain ⟨W1, hW1⟩ : ∃ W1, W1 = w.alloc (.cells (ndC n (.slice da n.data.length dc) (.slice aa n.acl.length ac)) 47) := ⟨_, rfl⟩
  have hE1 : Ext w W1 := by rw [hW1]; exact Ext.alloc _ _
  have hz1 : W1.heap.size = w.heap.size + 1 := by rw [hW1]; simp
  have hn1 : W1.heap[w.heap.size]? = some (.cells (ndC n (.slice da n.data.length dc) (.slice aa n.acl.length ac)) 47 (0, 0)) := by rw [hW1]; exact heap_alloc_new w _
  have hx : Box W1 w.heap.size (ndC n (.slice da n.data.length dc) (.slice aa n.acl.length ac)) := fun j => cell_of_row _ _ _ _ _ _ hn1
  have hR1 : RT W1 b L := hR.ext hE1
  have hbl := hR.lt
  have C1 := Lib.hid (rfind_any _ W1 b L hR1 hfL n.path hf.path)
  have hik := rfind_le L n.path
  generalize (rfind L n.path).1 = i at *
  generalize (rfind L n.path).2 = th at *
  have HW1 := Lib.hid hW1
  have HD := Lib.hid hD
  have HA := Lib.hid hA
  have HN1 := Lib.hid hn1
  have HR1 := Lib.hid hR1
  have HE1 := Lib.hid hE1
  rw [hW1] at hx
  unfold Box at hx
  unfold ndC at hx HW1
  clear hW1 hD hA hn1 hR1 hR hE1
  unfold ndC
  go_enter Tryz.func75, Tryz.ntmps75
  go_wp2_with fail
  rw [← HW1.out]
  refine C1.out.mono ?_
  rintro e W2 ⟨rfl, hE2⟩
  clear hx C1
  obtain ⟨a, cap, vs, hb2, hlc, hcm, hS2, hrows, hpl⟩ := RTree.ext HR1.out hE2
  have hz2 := hE2.size
  have hc2 : W2.cell? ⟨b, 0, none⟩ = some (.slice a L.length cap) := cell_of_row _ _ _ _ _ _ hb2
  have hsl1 := fun W => run_slice_to a L.length cap i (fun p hp => by
    rcases hpl with ⟨h, _⟩ | ⟨bl, off, h⟩
    · rw [h] at hp; cases hp
    · exact ⟨bl, off, by rw [h] at hp; exact (Option.some.inj hp).symm⟩) (by omega) W
  obtain ⟨v3, hsl2, hsrcf⟩ : ∃ v3, (∀ W, (Instr.slice 22 (.slice a L.length cap) (some (.int .i64 i)) none none).run Tryz.prog W = .ok v3 W) ∧ ∀ W S, RowsOf S W a vs L → (∀ k, S k → k < W.heap.size) → Src Tryz.prog 17 22 v3 (L.length - i) ((vs.drop i).flatMap Array.toList) W := by
    rcases hpl with ⟨h, h0⟩ | ⟨bl, off, h⟩
    · subst h h0
      have hL0 : L.length = 0 := by omega
      have hi0 : i = 0 := by omega
      subst hi0
      rw [hL0]
      refine ⟨.slice none 0 0, run_slice_nil, fun W S hr hS => ?_⟩
      have hv0 : vs = [] := List.eq_nil_of_length_eq_zero (by rw [hr.len]; exact hL0)
      subst hv0
      exact (Cells.nil W.heap.size W none).src Tryz.underlying22 0 0 rfl (fun u hu => by simp at hu)
    · subst h
      exact ⟨_, run_slice_from bl off L.length cap i hik hlc, fun W S hr hS => hr.src_from hik hlc hS⟩
  -- the first part
  obtain ⟨i0, hi, hz0, hz1', hz2'⟩ := info_parts infoNd
  obtain ⟨W3, hW3⟩ : ∃ W3, W3 = W2.alloc (.cells #[] 47) := ⟨_, rfl⟩
  have hE3 : Ext W2 W3 := by rw [hW3]; exact Ext.alloc _ _
  have hz3 : W3.heap.size = W2.heap.size + 1 := by rw [hW3]; simp
  have hown0 : W3.ownsRow W2.heap.size 47 17 (.slice (some ⟨W2.heap.size, 0, none⟩) 0 0) 0 [] := by rw [hW3]; exact World.ownsRow_made W2 #[] 0 (Nat.le_refl _) (Nat.zero_le _) rfl
  have hrows3 : RowsOf (fun k => k < W2.heap.size ∧ k ≠ b) W3 a vs L := hrows.imp (fun k hk => ⟨(hS2 k hk).1, (hS2 k hk).2⟩) (fun k hk => hE3.block k (hS2 k hk).1)
  have hsrc1 := hrows3.src_to (cap := cap) hik (fun k hk => by have := hk.1; omega)
  have hc3 : W3.cell? ⟨b, 0, none⟩ = some (.slice a L.length cap) := (hE3.cell (p := ⟨b, 0, none⟩) (show b < W2.heap.size by omega)).trans hc2
  have HW3 := Lib.hid hW3
  have HE2 := Lib.hid hE2
  have HE3 := Lib.hid hE3
  have HB2 := Lib.hid hb2
  have HSF := Lib.hid hsrcf
  have HRW3 := Lib.hid hrows3
  rw [hW3] at hown0 hsrc1 hc3
  clear hW3 hE2 hE3 hb2 hsrcf hrows3 hrows hS2 hpl
  go_wp2_with (at_builtin; refine wpList_append_src _ rfl (.tmp 14) (.tmp 20) 22 22 rfl W2.heap.size 47 i0 (.agg zeroNd) 17 168 Tryz.underlying22 hi hz0 hz1' hz2' rfl (by decide) _ 0 _ rfl hown0 _ i _ rfl hsrc1 ?c1 ?c2 ?c3 ?_)
  case c1 => unfold maxLen at *; omega
  case c2 => omega
  case c3 => simp
  intro v1 w4 hown1 hg1 _ _
  rw [← HW3.out] at hg1
  try simp only [List.nil_append, Nat.zero_add] at hown1
  have hz4 := hg1.size
  have hE24 : Ext W2 w4 := ⟨hg1.os.trans HE3.out.os, hg1.tape.trans HE3.out.tape, hg1.output.trans HE3.out.output, by omega, fun k hk => (hg1.block k (by omega) (fun e => by have h : k = W2.heap.size := Option.some.inj e; omega)).trans (HE3.out.block k hk)⟩
  have hEw4 : Ext w w4 := (HE1.out.trans HE2.out).trans hE24
  have hn4 : w4.heap[w.heap.size]? = some (.cells (ndC n (.slice da n.data.length dc) (.slice aa n.acl.length ac)) 47 (0, 0)) := (hE24.block _ (by omega)).trans ((HE2.out.block _ (by omega)).trans HN1.out)
  have C2 := Lib.hid (rclone_new n da aa dc ac w4 hf (HD.out.ext hEw4) (HA.out.ext hEw4))
  have hv1 : ∀ k, v1.ownBlock = some k → W2.heap.size ≤ k ∧ k < w4.heap.size := fun k hk => hown1.lt k hk
  have HN4 := Lib.hid hn4
  have HE24 := Lib.hid hE24
  have HO1 := Lib.hid hown1
  have HV1 := Lib.hid hv1
  unfold ndC at HN4
  clear hE24 hEw4 hn4 hown1 hv1 hg1 hown0 hsrc1 hc2 hc3 HW3
  go_wp2_with (refine wpList_load_row rfl 47 (.tmp 3) rfl w.heap.size rfl 47 _ (0, 0) _ HN4.out Tryz.underlying47 rfl sizeNd ?_)
  refine C2.out.mono ?_
  rintro e w5 ⟨v, rfl, ⟨ea, ec, fa, fc, rfl, hD5, hA5⟩, hE5⟩
  have hE5 : Ext w4 w5 := hE5
  have hz5 := hE5.size
  obtain ⟨cs, hcs⟩ : ∃ cs, cs = ndC n (.slice ea n.data.length ec) (.slice fa n.acl.length fc) := ⟨_, rfl⟩
  have hown5 := (HO1.out.kept (grown_of_ext hE5 none) (by cases h : v1.ownBlock <;> simp)).alloc (.cells cs 47)
  have hs17 : Cells (w5.alloc (.cells cs 47)).heap.size (w5.alloc (.cells cs 47)) (some ⟨w5.heap.size, 0, none⟩) cs.toList := fun j u hj => by
    refine ⟨_, 0, rfl, by simp, ?_⟩
    rw [Nat.zero_add, cell_of_row _ _ _ _ _ _ (heap_alloc_new w5 _)]
    simpa using hj
  have hsrc2 : Src Tryz.prog 17 22 (.slice (some ⟨w5.heap.size, 0, none⟩) 1 1) 1 cs.toList (w5.alloc (.cells cs 47)) :=
    hs17.src Tryz.underlying22 1 1 (by rw [hcs]; rfl) (fun u hu => by
      have := cells_node n ea fa n.data.length n.acl.length ec fc
      rw [← hcs, ← Array.all_toList] at this
      exact List.all_eq_true.1 this u hu)
  have hnew5 : NdS (fun k => w4.heap.size ≤ k ∧ k < w5.heap.size) w5 (.agg cs) n := ⟨ea, ec, fa, fc, by rw [hcs], hD5, hA5⟩
  have HNEW5 := Lib.hid hnew5
  have HE5 := Lib.hid hE5
  have HCS := Lib.hid hcs
  rw [hcs] at hown5 hsrc2
  unfold ndC at hown5 hsrc2 ⊢
  clear C2 hnew5 hE5 hcs hs17 hD5 hA5
  go_wp2_with (at_builtin; refine wpList_append_src _ rfl (.tmp 22) (.tmp 25) 22 22 rfl W2.heap.size 47 i0 (.agg zeroNd) 17 168 Tryz.underlying22 hi hz0 hz1' hz2' rfl (by decide) _ i _ rfl hown5 _ 1 _ rfl hsrc2 ?d1 ?d2 ?d3 ?_)
  case d1 => unfold maxLen at *; omega
  case d2 => omega
  case d3 => simp; omega
  intro v2 w7 hown7 hg2 _ ho2
  have hz7 := hg2.size
  simp only [World.size_alloc] at hz7
  have hW6b : ∀ k, k < w5.heap.size → v1.ownBlock ≠ some k → w7.heap[k]? = w5.heap[k]? := fun k hk hn => (hg2.block k (by simp; omega) (fun e => hn e.symm)).trans (heap_alloc_old w5 _ hk)
  have hE27 : Ext W2 w7 := ⟨hg2.os.trans (HE5.out.os.trans HE24.out.os), hg2.tape.trans (HE5.out.tape.trans HE24.out.tape), hg2.output.trans (HE5.out.output.trans HE24.out.output), by omega, fun k hk =>
    (hW6b k (by omega) (fun e => by have := HV1.out k e; omega)).trans ((HE5.out.block k (by omega)).trans (HE24.out.block k hk))⟩
  have hnew7 : NdS (fun k => w4.heap.size ≤ k ∧ k < w5.heap.size) w7 (.agg cs) n := NdS.imp HNEW5.out (fun _ h => h) fun bl o u hb hu => (World.cell?_of_block (hW6b bl hb.2 (fun e => by have := HV1.out bl e; omega))).trans hu
  have hv2 : ∀ k, v2.ownBlock = some k → W2.heap.size ≤ k ∧ (k < w4.heap.size ∨ w5.heap.size ≤ k) := fun k hk => by
    rcases ho2 with h | h
    · rw [h] at hk; have := HV1.out k hk; exact ⟨this.1, .inl this.2⟩
    · rw [h] at hk; have h9 : (w5.heap.size + 1) = k := by have := Option.some.inj hk; simpa using this
      omega
  have hrows7 : RowsOf (fun k => k < W2.heap.size ∧ k ≠ b) w7 a vs L := HRW3.out.imp (fun _ h => h) (fun k hk => by
    rw [hE27.block k hk.1, HE3.out.block k hk.1])
  have hsrc3 := HSF.out w7 _ hrows7 (fun k hk => by have := hk.1; omega)
  have hc7 : w7.cell? ⟨b, 0, none⟩ = some (.slice a L.length cap) := cell_of_row _ _ _ _ _ _ ((hE27.block b (by omega)).trans HB2.out)
  rw [show [Value.string n.path, .slice ea n.data.length ec, .slice fa n.acl.length fc, .int .i64 n.owner, .int .i64 n.czxid, .int .i64 n.mzxid, .int .i64 n.pzxid, .int .i64 n.azxid, .int .i64 n.qzxid, .int .i64 n.ctime, .int .i64 n.mtime, .int .i32 n.version, .int .i32 n.creates, .int .i32 n.aversion, .bool n.has, .int .i64 n.count, .int .i64 n.bytes] = cs.toList from by rw [HCS.out]; rfl] at hown7
  have HO7 := Lib.hid hown7
  have HE27 := Lib.hid hE27
  have HNEW7 := Lib.hid hnew7
  have HV2 := Lib.hid hv2
  have HR7 := Lib.hid hrows7
  clear hown5 hsrc2 hg2 ho2 hW6b hE27 hnew7 hv2 hrows7 HNEW5 hown7
  have hown8 := HO7.out
  go_wp2_with (at_builtin; refine wpList_append_src _ rfl (.tmp 28) (.tmp 34) 22 22 rfl W2.heap.size 47 i0 (.agg zeroNd) 17 168 Tryz.underlying22 hi hz0 hz1' hz2' rfl (by decide) _ (i + 1) _ rfl hown8 _ (L.length - i) _ rfl hsrc3 ?e1 ?e2 ?e3 ?_)
  case e1 => unfold maxLen at *; omega
  case e2 => omega
  case e3 => omega
  intro v4 w8 hown9 hg3 _ _
  have hz8 := hg3.size
  have hb8 : w8.heap[b]? = some (.cells #[.slice a L.length cap] 53 (0, 0)) := (hg3.block b (by omega) (fun e => by have := HV2.out b e.symm; omega)).trans ((HE27.out.block b (by omega)).trans HB2.out)
  have hk8 : ∀ k, k < W2.heap.size → w8.heap[k]? = W2.heap[k]? := fun k hk => (hg3.block k (by omega) (fun e => by have := HV2.out k e.symm; omega)).trans (HE27.out.block k hk)
  have hnew8 : NdS (fun k => k < w8.heap.size ∧ k ≠ b) w8 (.agg cs) n := NdS.imp HNEW7.out (fun k hk => ⟨by omega, by omega⟩) fun bl o u hb hu => (World.cell?_of_block (hg3.block bl (by omega) (fun e => by have := HV2.out bl e.symm; omega))).trans hu
  have hold8 : RowsOf (fun k => k < w8.heap.size ∧ k ≠ b) w8 a vs L := HR7.out.imp (fun k hk => ⟨by have := hk.1; omega, hk.2⟩) fun k hk => by rw [hk8 k hk.1, HE27.out.block k hk.1]
  have heach : EachN (fun k => k < w8.heap.size ∧ k ≠ b) w8 (vs.take i ++ ([cs] ++ vs.drop i)) (L.take i ++ ([n] ++ L.drop i)) :=
    EachN.append (EachN.take ⟨hold8.len, hold8.each⟩ i) ((EachN.one hnew8).append (EachN.drop ⟨hold8.len, hold8.each⟩ i))
  have hfl : (vs.take i).flatMap Array.toList ++ (cs.toList ++ (vs.drop i).flatMap Array.toList) = (vs.take i ++ ([cs] ++ vs.drop i)).flatMap Array.toList := by
    simp [List.flatMap_append]
  rw [hfl] at hown9
  have hln : i + 1 + (L.length - i) = (L.take i ++ ([n] ++ L.drop i)).length := by simp; omega
  obtain ⟨a9, c9, rfl, hc9, hm9, hr9, hp9⟩ := RowsOf.of_own hown9 hln heach.1 (fun k h1 h2 => ⟨h2, by omega⟩) heach.2
  have HK8 := Lib.hid hk8
  have HB8 := Lib.hid hb8
  have HR9 := Lib.hid hr9
  have HP9 := Lib.hid hp9
  have HG3 := Lib.hid hg3
  clear hk8 hb8 hr9 hp9 hown9 hown8 heach hfl hnew8 hold8 hsrc3 hg3 hsl1 hsl2
  have hfin : RT (w8.setRow b #[.slice a9 (i + 1 + (L.length - i)) c9]) b (L.take i ++ n :: L.drop i) ∧ Chg (· = b) w (w8.setRow b #[.slice a9 (i + 1 + (L.length - i)) c9]) := by
    have hb9 := setRow_heap w8 b _ #[.slice a9 (i + 1 + (L.length - i)) c9] _ _ HB8.out
    have hs9 : (w8.setRow b #[Value.slice a9 (i + 1 + (L.length - i)) c9]).heap.size = w8.heap.size := by simp [World.setRow]
    rw [hln] at hb9 hc9
    refine ⟨⟨a9, c9, _, by rw [hln]; exact hb9, hc9, hm9, fun k hk => hk, HR9.out.imp (fun k hk => ⟨by rw [hs9]; exact hk.1, hk.2⟩) (fun k hk => setRow_other _ _ _ _ hk.2), HP9.out⟩, ?_⟩
    have hc8 : Chg (· = b) w w8 := ⟨HG3.out.os.trans (HE27.out.os.trans (HE2.out.os.trans HE1.out.os)), HG3.out.tape.trans (HE27.out.tape.trans (HE2.out.tape.trans HE1.out.tape)), HG3.out.output.trans (HE27.out.output.trans (HE2.out.output.trans HE1.out.output)), by omega, fun k hk _ =>
      (HK8.out k (by omega)).trans ((HE2.out.block k (by omega)).trans (HE1.out.block k hk))⟩
    exact hc8.trans (Chg.set (S := (· = b)) b w8 _ rfl) fun _ _ h => h
  have HFIN := Lib.hid hfin
  clear hfin
  go_wp2_with (refine wpList_store_one rfl 22 (.tmp 37) (.tmp 35) rfl b _ rfl rfl rfl 53 _ HB8.out infoSl ?_)
  exact bodyPost_end (results_none rfl _ _ _) rfl ⟨rfl, by rw [show i + (L.length - i + 1) = i + 1 + (L.length - i) by omega]; exact HFIN.out⟩
end Go.Proofs.YtamolbegmkngdaaGreatDoor
namespace Go.Proofs.YtamolbegmkngdaaGreatDoor
open Go.RowKit
set_option maxHeartbeats 2000000
set_option maxRecDepth 100000

theorem r9of_nil (w : World) : Calls Tryz.prog 15 #[.pointer none] w fun e w' => e = .returned (.int .u64 0) ∧ w = w' := by
  go_enter Tryz.func15, Tryz.ntmps15
  go_wp2
  go_loopw [3, 4] (fun sm i wr => sm = .int .u64 0 ∧ i = .int .i64 0 ∧ wr = w) (fun _ _ _ => 0)
  case atStart => exact ⟨rfl, rfl, rfl⟩
  case round =>
    obtain ⟨rfl, rfl, rfl⟩ := hrel
    go_wp2
    go_ret
    exact ⟨rfl, rfl⟩

theorem addN_takeR (L : List Nd) (k : Nat) (hk : k < L.length) : addN 0 (L.take (k + 1)) = IntKind.u64.wrap (addN 0 (L.take k) + nodeN L[k]) := by
  rw [List.take_succ_eq_append_getElem hk, addN_snoc]

theorem r9of_any (w : World) (b : Nat) (L : List Nd) (hR : RT w b L) (hf : ∀ n ∈ L, Fit n) (hT : Tabs w) : Calls Tryz.prog 15 #[.pointer (some ⟨b, 0, none⟩)] w fun e w' => e = .returned (.int .u64 (addN 0 L)) ∧ Ext w w' := by
  obtain ⟨a, cap, vs, hb, hl, hcm, hS, hrows, _⟩ := hR
  have hcb : w.cell? ⟨b, 0, none⟩ = some (.slice a L.length cap) := cell_of_row _ _ _ _ _ _ hb
  have hbl := (Array.getElem?_eq_some_iff.1 hb).1
  have hl64 : L.length ≤ 9223372036854775807 := by unfold maxLen at hcm; omega
  have hsz := hT.size
  have HROWS := Lib.hid hrows
  have HS := Lib.hid hS
  have HF := Lib.hid hf
  have HT := Lib.hid hT
  clear hb hrows hS hf hT
  go_enter Tryz.func15, Tryz.ntmps15
  go_wp2
  go_loopw [3, 4] (fun sm i wr => ∃ k : Nat, k ≤ L.length ∧ i = .int .i64 k ∧ sm = .int .u64 (addN 0 (L.take k)) ∧ Ext w wr) (fun _ i _ => L.length - (intOf i).toNat)
  case atStart => exact ⟨0, Nat.zero_le _, rfl, rfl, Ext.refl _⟩
  case round =>
    obtain ⟨k, hk, rfl, rfl, hE⟩ := hrel
    have hcr : wr.cell? ⟨b, 0, none⟩ = some (.slice a L.length cap) := (hE.cell (p := ⟨b, 0, none⟩) hbl).trans hcb
    by_cases hlt : k < L.length
    · obtain ⟨bl, off, da, dc, aa, ac, ea, hSb, hc, hD, hA, _⟩ := HROWS.out.row (List.getElem?_eq_getElem hlt)
      subst ea
      have hfit := HF.out L[k] (List.getElem_mem hlt)
      have hsn := addN_takeR L k hlt
      generalize L[k] = n at *
      have hcw : ∀ j u, (ndC n (.slice da n.data.length dc) (.slice aa n.acl.length ac))[j]? = some u → wr.cell? ((⟨bl, off + k * 17, none⟩ : Addr).add j) = some u := fun j u hj => by
        rw [addr_add, hE.cell (p := ⟨bl, off + k * 17 + j, none⟩) (HS.out bl hSb).1]
        exact hc j u hj
      have CN := Lib.hid (rnode_any n da aa dc ac wr hfit (HT.out.below hE hsz) ((hD.cells fun b hb => (HS.out b hb).1).ext hE) ((hA.cells fun b hb => (HS.out b hb).1).ext hE))
      have HC := Lib.hid hcw
      have HE := Lib.hid hE
      have HSN := Lib.hid hsn
      generalize addN 0 (L.take k) = s at *
      unfold ndC at HC
      clear hcw hc hE hD hA hsn
      go_wp2_with (refine wpList_load_at rfl 47 (.tmp 24) rfl _ rfl _ _ HC.out Tryz.underlying47 rfl sizeNd ?_)
      refine CN.out.mono ?_
      rintro e w2 ⟨rfl, hE2⟩
      have HE2 := Lib.hid (HE.out.trans hE2)
      clear CN hE2 HC hcr hcb
      go_wp2
      go_roundw
      case rel => exact ⟨k + 1, by omega, by go_num, by rw [HSN.out], HE2.out⟩
      case measure => simp [intOf]; omega
    · obtain rfl : k = L.length := by omega
      rw [List.take_length]
      have HE := Lib.hid hE
      clear hE hcb
      go_wp2
      go_ret
      exact ⟨rfl, HE.out⟩
end Go.Proofs.YtamolbegmkngdaaGreatDoor
namespace Go.Proofs.YtamolbegmkngdaaGreatDoor
open Go.RowKit
set_option maxHeartbeats 1000000
set_option maxRecDepth 100000

theorem rlast_any (s : ByteArray) (w : World) (hv : vpath s = true) (hs : s.size ≤ 9223372036854775800) : Calls Tryz.prog 137 #[.string s] w fun e w' => e = .returned (.int .i64 (lastS s)) ∧ w = w' := by
  obtain ⟨i, ei, hi, h47, hno⟩ := lastS_spec hv
  have HNO := Lib.hid hno
  have HI := Lib.hid ei
  have h47' := Lib.hid h47
  clear hno ei h47 hv
  go_enter Tryz.func137, Tryz.ntmps137
  go_wp2
  go_loop [3] (fun v => ∃ q : Nat, i ≤ q ∧ q < s.size ∧ v = .int .i64 q) (fun v => (intOf v).toNat)
  case atStart => exact ⟨s.size - 1, by omega, by omega, by go_num⟩
  case round =>
    obtain ⟨q, hq1, hq2, rfl⟩ := hrel
    have e2 := bat_get s q hq2
    by_cases hq : q = i
    · subst hq
      have h := h47'.out
      rw [e2] at h
      have hb : ((s[q].toNat : Int) != 47) = false := by simp; omega
      have hb2 : ¬ (s[q].toNat : Int) ≠ 47 := by omega
      clear e2 h h47' HNO
      go_wp2
      go_ret
      exact ⟨by rw [HI.out]; rfl, rfl⟩
    · have h := HNO.out q (by omega) hq2
      rw [e2] at h
      have hb : ((s[q].toNat : Int) != 47) = true := by simp; omega
      clear e2 h h47' HNO HI
      go_wp2
      go_round
      case rel => exact ⟨q - 1, by omega, by omega, by go_num⟩
      case measure => simp [intOf]; omega

theorem rparent_any (s : ByteArray) (w : World) (hs : s.size ≤ 9223372036854775800) : Calls Tryz.prog 76 #[.string s] w fun e w' => e = .returned (parV s) ∧ Below w.heap.size w w' := by
  have C1 := rvalid_any s w (by omega)
  by_cases hv : vpath s = true
  · have hroot := root_iff hv
    rw [hv] at C1
    by_cases h1 : s.size = 1
    · have e1 : (s.toList == [47]) = true := by rw [ByteArray.toList_eq]; simpa using hroot.1 h1
      have e2 : s.toList = [47] := by simpa using e1
      have R : Hid (parV s = .tuple #[.string ⟨#[]⟩, .int .i64 30]) := by unfold Hid parV; rw [if_neg (by simp [h1])]
      have C1 := Lib.hid C1
      clear h1 hroot hv
      go_enter Tryz.func76, Tryz.ntmps76
      go_wp2_with fail
      refine C1.out.mono ?_
      rintro e w1 ⟨rfl, hb1⟩
      clear C1
      go_wp2
      go_ret2
      exact ⟨by rw [R.out]; rfl, hb1⟩
    · have e1 : (s.toList == [47]) = false := by rw [ByteArray.toList_eq]; simpa using fun h => h1 (hroot.2 h)
      have e2 : ¬ s.toList = [47] := by simpa using e1
      have R : Hid (parV s = .tuple #[.string (s.extract 0 (max (lastS s) 1).toNat), .int .i64 0]) := by unfold Hid parV parentB; rw [if_pos ⟨hv, h1⟩]
      have C1 := Lib.hid C1
      have C2 := fun w => rlast_any s w hv hs
      obtain ⟨i, e, hi, _, _⟩ := lastS_spec hv
      rw [e] at C2 R
      have C2 := Lib.hid C2
      have hf := vpath_facts hv
      by_cases h0 : i = 0
      · subst h0
        have R2 : Hid (parV s = .tuple #[.string ⟨#[47]⟩, .int .i64 0]) := by
          unfold Hid
          rw [R.out]
          congr 3
          apply congrArg Value.string
          apply ba_ext
          have h3 : bat s 0 = 47 := hf.2.2.1
          have h4 := drop_at_slash (s := s) (i := 0) (by omega) h3
          rw [List.drop_zero] at h4
          rw [show (max ((0 : Nat) : Int) 1).toNat = 1 from rfl, ByteArray.data_extract, Array.toList_extract, List.extract_eq_take_drop]
          rw [List.drop_zero, h4]
          rfl
        clear hroot hf hv h1 e R
        go_enter Tryz.func76, Tryz.ntmps76
        go_wp2_with fail
        refine C1.out.mono ?_
        rintro e w1 ⟨rfl, hb1⟩
        clear C1
        go_wp2_with fail
        refine (C2.out _).mono ?_
        rintro e w2 ⟨rfl, rfl⟩
        clear C2
        go_wp2
        go_ret2
        exact ⟨by rw [R2.out]; rfl, hb1⟩
      · have hm : (max (i : Int) 1).toNat = i := by omega
        rw [hm] at R
        have hi0 : ((i : Int) == 0) = false := by simp; omega
        have hi1 : ¬ (i : Int) = 0 := by omega
        have hi2 : (i : Int) ≤ s.size := by omega
        clear hroot hf hv h1 e hm
        go_enter Tryz.func76, Tryz.ntmps76
        go_wp2_with fail
        refine C1.out.mono ?_
        rintro e w1 ⟨rfl, hb1⟩
        clear C1
        go_wp2_with fail
        refine (C2.out _).mono ?_
        rintro e w2 ⟨rfl, rfl⟩
        go_wp2_with fail
        refine (C2.out _).mono ?_
        rintro e w2 ⟨rfl, rfl⟩
        clear C2
        go_wp2
        go_ret2
        exact ⟨by rw [R.out]; rfl, hb1⟩
  · have hv' : vpath s = false := by simpa using hv
    have R : Hid (parV s = .tuple #[.string ⟨#[]⟩, .int .i64 30]) := by unfold Hid parV; rw [if_neg (by simp [hv'])]
    rw [hv'] at C1
    have C1 := Lib.hid C1
    clear hv hv'
    go_enter Tryz.func76, Tryz.ntmps76
    go_wp2_with fail
    refine C1.out.mono ?_
    rintro e w1 ⟨rfl, hb1⟩
    clear C1
    go_wp2
    go_ret2
    exact ⟨by rw [R.out]; rfl, hb1⟩
end Go.Proofs.YtamolbegmkngdaaGreatDoor
namespace Go.Proofs.YtamolbegmkngdaaGreatDoor
open Go.RowKit
set_option maxHeartbeats 2000000
set_option maxRecDepth 100000

def RFromOut (L : List Nd) (w : World) (e : Ending) (w' : World) : Prop :=
  match fromN L with
  | .error (i, x) => e = .returned (.tuple #[.pointer none, .int .i64 i, .int .i64 x]) ∧ Ext w w'
  | .ok M => ∃ b, e = .returned (.tuple #[.pointer (some ⟨b, 0, none⟩), .int .i64 0, .int .i64 0]) ∧ w.heap.size ≤ b ∧ RT w' b (nds M) ∧ Ext w w'
theorem rfromOut_err {L : List Nd} {w w' : World} {i : Nat} {x : Int} (h : fromN L = .error (i, x)) (hb : Ext w w') : RFromOut L w (.returned (.tuple #[.pointer none, .int .i64 i, .int .i64 x])) w' := by
  unfold RFromOut; rw [h]; exact ⟨rfl, hb⟩

theorem nds_fit {M : List (Key × Nd)} (hM : MOk M) : ∀ m ∈ nds M, Fit m := fun m hm => by
  obtain ⟨x, hx, rfl⟩ := List.mem_map.1 hm
  exact (right_fit (hM.right x hx)).1
theorem rfind_isSome {M : List (Key × Nd)} (hM : MOk M) (s : ByteArray) : (rfind (nds M) s).2 = (mget M s.data.toList).isSome := rfind_there hM.sorted hM.key s
theorem rt_nil (w : World) : RT (w.alloc (.cells #[.slice none 0 0] 53)) w.heap.size [] :=
  ⟨none, 0, [], heap_alloc_new w _, Nat.le_refl _, Nat.zero_le _, fun _ h => h, ⟨rfl, fun j u hj => by simp at hj, fun j cs hj => by simp at hj⟩, .inl ⟨rfl, rfl⟩⟩

set_option maxHeartbeats 8000000 in
theorem rfrom_any (L : List Nd) (a : Option Addr) (c : Nat) (w : World) (hT0 : Tabs w) (hL : NdsAt w.heap.size w a L) (hf : ∀ n ∈ L, Fit n) (hl : L.length * 168 ≤ 140737488355328) : Calls Tryz.prog 13 #[.slice a L.length c] w (RFromOut L w) := by
  have hR0 := rt_nil w
  have hE0 : Ext w (w.alloc (.cells #[.slice none 0 0] 53)) := Ext.alloc _ _
  have hl2 : L.length ≤ 9223372036854775807 := by omega
  have hsz := hT0.size
  have HR0 := Lib.hid hR0
  have HE0 := Lib.hid hE0
  have HT := Lib.hid hT0
  have HL := Lib.hid hL
  have HF := Lib.hid hf
  clear hR0 hE0 hT0 hL hf
  go_enter Tryz.func13, Tryz.ntmps13
  go_wp2
  go_loopw [6] (fun i wr => ∃ (k : Nat) (M : List (Key × Nd)), k ≤ L.length ∧ i = .int .i64 k ∧ Hid (fromL L 0 [] = fromL (L.drop k) k M) ∧ Hid (MOk M) ∧ RT wr w.heap.size (nds M) ∧ M.length ≤ k ∧ Ext w wr) (fun i _ => L.length - (intOf i).toNat)
  case atStart => exact ⟨0, [], Nat.zero_le _, rfl, rfl, MOk.nil, HR0.out, Nat.le_refl _, HE0.out⟩
  case round =>
    obtain ⟨k, M, hk, rfl, HFL, HM, hR, hMk, hE⟩ := hrel
    by_cases hlt : k < L.length
    · have hLk : L[k]? = some L[k] := List.getElem?_eq_getElem hlt
      have hfk := HF.out L[k] (List.getElem_mem hlt)
      have HS := Lib.hid (HFL.out.trans (fromL_step L k L[k] M hLk))
      obtain ⟨b, off, v, rfl, hb, hv, hc⟩ := HL.out k L[k] hLk
      generalize L[k] = n at *
      obtain ⟨da, dc, aa, ac, rfl, hD, hA⟩ := hv
      have hcw : ∀ W, Ext w W → ∀ j u, (ndC n (.slice da n.data.length dc) (.slice aa n.acl.length ac))[j]? = some u → W.cell? ((⟨b, off + k * 17, none⟩ : Addr).add j) = some u := fun W h j u hj => by
        rw [addr_add, h.cell (p := ⟨b, off + k * 17 + j, none⟩) hb]
        exact hc j u hj
      have hc1 := hcw wr hE
      have CR := Lib.hid (rright_any n da aa dc ac wr hfk (HT.out.below hE hsz) ((hA.ext hE)))
      have HR := Lib.hid hR
      have HE := Lib.hid hE
      have HCW := Lib.hid hcw
      have HC1 := Lib.hid hc1
      have HD := Lib.hid hD
      have HA := Lib.hid hA
      unfold ndC at HC1
      clear hcw hc1 hc hR hE hD hA
      go_wp2_with (refine wpList_load_at rfl 47 (.tmp 27) rfl _ rfl _ _ HC1.out Tryz.underlying47 rfl sizeNd ?_)
      refine CR.out.mono ?_
      rintro e w2 ⟨rfl, hE2⟩
      have hE2 : Ext wr w2 := hE2
      have hEw2 := HE.out.trans hE2
      by_cases hr : rightN n = 0
      · have hp0 : w2.cell? ⟨b, off + k * 17, none⟩ = some (.string n.path) := by
          have := HCW.out w2 hEw2 0 (.string n.path) rfl
          rwa [addr_add] at this
        have CF := Lib.hid (rfind_any _ w2 w.heap.size (nds M) (HR.out.ext hE2) (nds_fit HM.out) n.path hfk.path)
        have hthere := rfind_isSome HM.out n.path
        have HS2 := Lib.hid (HS.out.trans (by rw [if_neg (by simpa using hr)]))
        have HR2 := Lib.hid (HR.out.ext hE2)
        have HE2 := Lib.hid hEw2
        rw [hr]
        have HRT := Lib.hid hr
        clear hE2 hEw2 CR HS HR HC1 hr
        rw [hthere] at CF
        cases hg : mget M n.path.data.toList with
        | some y =>
          rw [hg] at CF
          have hgK : mget M (keyN n) = some y := hg
          have HERR := Lib.hid (show fromN L = .error (k, 71) by
            unfold fromN
            rw [HS2.out, if_pos (by rw [hgK]; rfl)])
          clear hg hgK hthere HS2
          go_wp2_with fail
          refine CF.out.mono ?_
          rintro e w3 ⟨rfl, hE3⟩
          have HFIN := Lib.hid (rfromOut_err HERR.out (HE2.out.trans hE3))
          clear CF hE3 HERR hp0
          go_wp2
          go_ret3
          exact HFIN.out
        | none =>
          rw [hg] at CF
          have hgK : mget M (keyN n) = none := hg
          have HS3 := Lib.hid (HS2.out.trans (by rw [if_neg (by rw [hgK]; simp)]))
          have HINS := Lib.hid (rfind_ins HM.out n hgK)
          have HM2 := Lib.hid (HM.out.put n HRT.out)
          have hml : (mput M (keyN n) n).length ≤ k + 1 := by
            unfold mput; rw [mins_length]
            have := List.length_filter_le (fun x : Key × Nd => !(x.1 == keyN n)) M
            show (mdel M (keyN n)).length + 1 ≤ k + 1
            unfold mdel; omega
          clear hg hgK hthere HS2
          go_wp2_with fail
          refine CF.out.mono ?_
          rintro e w3 ⟨rfl, hE3⟩
          have hE3 : Ext w2 w3 := hE3
          have hEw3 := HE2.out.trans hE3
          have HC3 := Lib.hid (HCW.out w3 hEw3)
          have CI := Lib.hid (rinsert_any w3 w.heap.size (nds M) n da aa dc ac (HR2.out.ext hE3) (nds_fit HM.out) hfk (HD.out.ext hEw3) (HA.out.ext hEw3) (by rw [nds_length]; omega))
          have HE3 := Lib.hid hEw3
          unfold ndC at HC3
          clear hE3 hEw3 CF HR2 hp0
          go_wp2_with (refine wpList_load_at rfl 47 (.tmp 49) rfl _ rfl _ _ HC3.out Tryz.underlying47 rfl sizeNd ?_)
          refine CI.out.mono ?_
          rintro e w4 ⟨rfl, hR4, hC4⟩
          rw [← HINS.out] at hR4
          have HR4 := Lib.hid hR4
          have HE4 := Lib.hid (HE3.out.trans' (hC4.below (fun x hx => by subst hx; exact Nat.le_refl _) HE3.out.size))
          clear CI hR4 hC4 HC3
          go_wp2
          go_roundw
          case rel => exact ⟨k + 1, _, by omega, by go_num, HS3.out, HM2.out, HR4.out, hml, HE4.out⟩
          case measure => simp [intOf]; omega
      · have hr1 : (rightN n != 0) = true := by simpa using hr
        have HERR := Lib.hid (show fromN L = .error (k, rightN n) by
          unfold fromN
          rw [HS.out, if_pos (by simpa using hr)])
        have HFIN := Lib.hid (rfromOut_err HERR.out hEw2)
        clear hE2 hEw2 CR HS HERR HC1
        go_wp2
        go_ret3
        exact HFIN.out
    · obtain rfl : k = L.length := by omega
      have HF2 : Hid (fromL L 0 [] = .ok M) := by
        unfold Hid; rw [HFL.out, List.drop_length]; rfl
      have CF := Lib.hid (rfind_any _ wr w.heap.size (nds M) hR (nds_fit HM.out) ⟨#[47]⟩ (by decide))
      have hthere := rfind_isSome HM.out ⟨#[47]⟩
      rw [hthere] at CF
      have hkl : ((⟨#[47]⟩ : ByteArray)).data.toList = [47] := rfl
      rw [hkl] at CF
      have HR := Lib.hid hR
      have HE := Lib.hid hE
      clear hR hE hthere hkl
      cases hg : mget M [47] with
      | none =>
        rw [hg] at CF
        have HERR := Lib.hid (show fromN L = .error (0, 70) by
          unfold fromN
          rw [HF2.out]
          simp only
          rw [if_pos hg])
        clear hg
        go_wp2_with fail
        refine CF.out.mono ?_
        rintro e w3 ⟨rfl, hE3⟩
        have HFIN := Lib.hid (rfromOut_err HERR.out (HE.out.trans hE3))
        clear CF hE3 HERR
        go_wp2
        go_ret3
        exact HFIN.out
      | some y0 =>
        rw [hg] at CF
        have HG := Lib.hid hg
        have HRt := Lib.hid (fromL_right L 0 [] M HF2.out)
        clear hg
        go_wp2_with fail
        refine CF.out.mono ?_
        rintro e W5 ⟨rfl, hE5⟩
        have hE5 : Ext wr W5 := hE5
        have HR5 := Lib.hid (HR.out.ext hE5)
        have HE5 := Lib.hid (HE.out.trans hE5)
        clear CF hE5 HR HE
        go_wp2
        go_loopw [12] (fun i wt => ∃ k : Nat, k ≤ L.length ∧ i = .int .i64 k ∧ Hid (parL M L 0 = parL M (L.drop k) k) ∧ Ext W5 wt) (fun i _ => L.length - (intOf i).toNat)
        case atStart => exact ⟨0, Nat.zero_le _, rfl, rfl, Ext.refl _⟩
        case round =>
          obtain ⟨k, hk, rfl, HP, hE⟩ := hrel
          by_cases hlt : k < L.length
          · have hLk : L[k]? = some L[k] := List.getElem?_eq_getElem hlt
            have hrk := HRt.out L[k] (List.getElem_mem hlt)
            have HS := Lib.hid (HP.out.trans (parL_step M L k L[k] hLk))
            obtain ⟨b, off, v, rfl, hb, hv, hc⟩ := HL.out k L[k] hLk
            generalize L[k] = n at *
            obtain ⟨da, dc, aa, ac, rfl, _⟩ := hv
            have hEw := HE5.out.trans hE
            have hp0 : wr.cell? ⟨b, off + k * 17, none⟩ = some (.string n.path) := (hEw.cell (p := ⟨b, off + k * 17, none⟩) hb).trans (hc 0 (.string n.path) rfl)
            have hvp := right_vpath hrk
            have hvf := (vpath_facts hvp).2.1
            have HE := Lib.hid hE
            clear hc hE
            by_cases hroot : n.path.size = 1
            · have hroot' := (root_iff hvp).1 hroot
              have e1 : (n.path.toList == [47]) = true := by rw [ByteArray.toList_eq]; simpa using hroot'
              have e2 : n.path.toList = [47] := by simpa using e1
              have HS2 := Lib.hid (HS.out.trans (by rw [if_neg (fun h => h.1 hroot)]))
              clear hroot hroot' HS hvp hrk
              go_wp2
              go_roundw
              case rel => exact ⟨k + 1, by omega, by go_num, HS2.out, HE.out⟩
              case measure => simp [intOf]; omega
            · have e1 : (n.path.toList == [47]) = false := by rw [ByteArray.toList_eq]; simpa using fun h => hroot ((root_iff hvp).2 h)
              have e2 : ¬ n.path.toList = [47] := by simpa using e1
              have CP := rparent_any n.path wr (by omega)
              rw [show parV n.path = .tuple #[.string (parentB n.path), .int .i64 0] by unfold parV; rw [if_pos ⟨hvp, hroot⟩]] at CP
              have hps : (parentB n.path).size ≤ 9223372036854775800 := by
                have := (path_split hvp hroot).2.2.1
                omega
              have CP := Lib.hid CP
              have HRoot := Lib.hid hroot
              have HTH := Lib.hid (rfind_isSome HM.out (parentB n.path))
              clear hroot hvp hrk
              go_wp2_with fail
              refine CP.out.mono ?_
              rintro e w6 ⟨rfl, hE6⟩
              have hE6 : Ext wr w6 := hE6
              have hE56 := HE.out.trans hE6
              have CF := Lib.hid (rfind_any _ w6 w.heap.size (nds M) (HR5.out.ext hE56) (nds_fit HM.out) (parentB n.path) hps)
              rw [HTH.out] at CF
              have HE6 := Lib.hid hE56
              clear CP hE6 hE56 hp0
              cases hg : mget M (parentB n.path).data.toList with
              | none =>
                rw [hg] at CF
                have HERR := Lib.hid (show fromN L = .error (k, 73) by
                  unfold fromN
                  rw [HF2.out]
                  simp only
                  rw [if_neg (by rw [HG.out]; simp), HS.out, if_pos ⟨HRoot.out, hg⟩])
                clear hg HS
                go_wp2_with fail
                refine CF.out.mono ?_
                rintro e w7 ⟨rfl, hE7⟩
                have HFIN := Lib.hid (rfromOut_err HERR.out (HE5.out.trans (HE6.out.trans hE7)))
                clear CF hE7 HERR
                go_wp2
                go_ret3
                exact HFIN.out
              | some y1 =>
                rw [hg] at CF
                have HS2 := Lib.hid (HS.out.trans (by rw [if_neg (fun h => by rw [hg] at h; cases h.2)]))
                clear hg HS
                go_wp2_with fail
                refine CF.out.mono ?_
                rintro e w7 ⟨rfl, hE7⟩
                have HE7 := Lib.hid (HE6.out.trans hE7)
                clear CF hE7
                go_wp2
                go_roundw
                case rel => exact ⟨k + 1, by omega, by go_num, HS2.out, HE7.out⟩
                case measure => simp [intOf]; omega
          · obtain rfl : k = L.length := by omega
            have hfin : RFromOut L w (.returned (.tuple #[.pointer (some ⟨w.heap.size, 0, none⟩), .int .i64 0, .int .i64 0])) wr := by
              unfold RFromOut fromN
              rw [HF2.out]
              simp only
              rw [if_neg (by rw [HG.out]; simp), HP.out, List.drop_length]
              exact ⟨_, rfl, Nat.le_refl _, HR5.out.ext hE, HE5.out.trans hE⟩
            have HFIN := Lib.hid hfin
            clear hfin hE HP HG HF2
            go_wp2
            go_ret3
            exact HFIN.out
end Go.Proofs.YtamolbegmkngdaaGreatDoor
namespace Go.Proofs.YtamolbegmkngdaaGreatDoor
open Go.RowKit
set_option maxHeartbeats 4000000
set_option maxRecDepth 100000

theorem infoEnt : (Tryz.prog.info? 200).map (fun i => (i.zero, i.size, i.bytes)) = some (some (.agg #[.int .i64 0, .int .u64 0]), 2, 16) := by kernel_rfl
theorem sizeEnt : (Tryz.prog.info? 200).map (·.size) = some 2 := by kernel_rfl
theorem infoI64 : (Tryz.prog.info? 2).map (·.size) = some 1 := by kernel_rfl
theorem infoEnts : (Tryz.prog.info? 196).map (·.size) = some 1 := by kernel_rfl

/-- Entries in a row. -/
def entC (R : List (Int × Int)) : List Value := R.flatMap fun e => [.int .i64 e.1, .int .u64 e.2]
theorem entC_length (R : List (Int × Int)) : (entC R).length = R.length * 2 := by
  induction R with
  | nil => rfl
  | cons x R ih => simp only [entC, List.flatMap_cons, List.length_append, List.length_cons, List.length_nil] at ih ⊢; omega

def bookC (every most last : Int) (v : Value) (first : Nat) : Array Value := #[.int .i64 every, .int .i64 most, .int .i64 last, v, .int .i64 first]

/-- A book in memory, its blocks in S. -/
structure BookAt (S : Nat → Prop) (w : World) (bb : Nat) (every most last : Int) (R : List (Int × Int)) (first : Nat) (v : Value) : Prop where
  blk : w.heap[bb]? = some (.cells (bookC every most last v first) 198 (0, 0))
  ring : w.ownsRow 0 200 2 v R.length (entC R)
  own : ∀ k, v.ownBlock = some k → S k ∧ k ≠ bb
  mine : S bb
  bound : ∀ k, S k → k < w.heap.size

def NewBookOut (every most : Int) (w : World) (e : Ending) (w' : World) : Prop :=
  if 1 ≤ every ∧ 1 ≤ most then ∃ bb, e = .returned (.tuple #[.pointer (some ⟨bb, 0, none⟩), .int .i64 0]) ∧ w.heap.size ≤ bb ∧ BookAt (fun k => w.heap.size ≤ k ∧ k < w'.heap.size) w' bb every most 0 [] 0 (.slice none 0 0) ∧ Ext w w'
  else e = .returned (.tuple #[.pointer none, .int .i64 1]) ∧ w = w'

theorem newbook_any (every most : Int) (w : World) : Calls Tryz.prog 79 #[.int .i64 every, .int .i64 most] w (NewBookOut every most w) := by
  unfold NewBookOut
  by_cases h1 : every < 1
  · have h2 : ¬ (1 ≤ every ∧ 1 ≤ most) := by omega
    have hd : decide (every < 1) = true := by simpa using h1
    simp only [if_neg h2]
    clear h2
    go_enter Tryz.func79, Tryz.ntmps79
    go_wp2
    go_ret2
    exact ⟨rfl, rfl⟩
  · have hd : decide (every < 1) = false := by simpa using h1
    by_cases h3 : most < 1
    · have h2 : ¬ (1 ≤ every ∧ 1 ≤ most) := by omega
      have hd3 : decide (most < 1) = true := by simpa using h3
      simp only [if_neg h2]
      clear h2
      go_enter Tryz.func79, Tryz.ntmps79
      go_wp2
      go_ret2
      exact ⟨rfl, rfl⟩
    · have h2 : 1 ≤ every ∧ 1 ≤ most := by omega
      have hd3 : decide (most < 1) = false := by simpa using h3
      simp only [if_pos h2]
      have hfin : ∃ bb, (Ending.returned (.tuple #[.pointer (some ⟨w.heap.size, 0, none⟩), .int .i64 0])) = .returned (.tuple #[.pointer (some ⟨bb, 0, none⟩), .int .i64 0]) ∧ w.heap.size ≤ bb ∧
          BookAt (fun k => w.heap.size ≤ k ∧ k < (w.alloc (.cells (bookC every most 0 (.slice none 0 0) 0) 198)).heap.size) (w.alloc (.cells (bookC every most 0 (.slice none 0 0) 0) 198)) bb every most 0 [] 0 (.slice none 0 0) ∧ Ext w (w.alloc (.cells (bookC every most 0 (.slice none 0 0) 0) 198)) :=
        ⟨w.heap.size, rfl, Nat.le_refl _, ⟨heap_alloc_new w _, World.ownsRow_nil _ _ _ _, fun k hk => (by cases hk), ⟨Nat.le_refl _, by simp⟩, fun k hk => hk.2⟩, Ext.alloc _ _⟩
      have HFIN := Lib.hid hfin
      unfold bookC at HFIN
      clear hfin h2
      go_enter Tryz.func79, Tryz.ntmps79
      go_wp2
      go_ret2
      exact HFIN.out

theorem blen_any (S : Nat → Prop) (w : World) (bb : Nat) (every most last : Int) (R : List (Int × Int)) (first : Nat) (v : Value) (h : BookAt S w bb every most last R first v) : Calls Tryz.prog 82 #[.pointer (some ⟨bb, 0, none⟩)] w fun e w' => e = .returned (.int .i64 R.length) ∧ w = w' := by
  have hx : Box w bb (bookC every most last v first) := fun j => cell_of_row _ _ _ _ _ _ h.blk
  obtain ⟨a, c, rfl⟩ : ∃ a c, v = .slice a R.length c := by
    rcases h.ring.2 with ⟨rfl, h0⟩ | ⟨g, cap, cur, rfl, _⟩
    · exact ⟨none, 0, by rw [h0]⟩
    · exact ⟨_, _, rfl⟩
  unfold Box bookC at hx
  clear h
  go_enter Tryz.func82, Tryz.ntmps82
  go_wp2
  go_ret
  exact ⟨rfl, rfl⟩
end Go.Proofs.YtamolbegmkngdaaGreatDoor
namespace Go.Proofs.YtamolbegmkngdaaGreatDoor
open Go.RowKit
set_option maxHeartbeats 4000000
set_option maxRecDepth 100000

/-- The cells of a book of every second number, two at the most. -/
def bkC (l : Int) (v : Value) : Array Value := #[.int .i64 2, .int .i64 2, .int .i64 l, v, .int .i64 0]

def FirstOut (w : World) (bb : Nat) (e : Ending) (w' : World) : Prop :=
  e = .returned (.bool true) ∧ (∃ v, w'.heap[bb]? = some (.cells (bkC 2 v) 198 (0, 0)) ∧ ∃ a c, v = .slice a 1 c) ∧ But bb w w'

/-- What the appending of an entry to a nil ring leaves, operation by operation. -/
def PhiF (bb : Nat) (i : Nat) (v : Value) (w : World) : Prop :=
  match i with
  | 0 | 1 | 2 | 8 => v = .pointer (some ⟨bb, 0, none⟩)
  | 3 | 9 => v = .pointer (some ⟨bb, 3, none⟩)
  | 4 => v = .slice none 0 0
  | 5 => v = .agg #[.int .i64 2, .int .u64 6]
  | 6 => ∃ g, v = .slice (some ⟨g, 0, none⟩) 1 1 ∧ w.heap[g]? = some (.cells #[.int .i64 2, .int .u64 6] 200 (0, 0))
  | 7 => ∃ a c, v = .slice a 1 c
  | _ => False
theorem PhiF.stab (bb : Nat) : ∀ i v w w', PhiF bb i v w → Ext w w' → PhiF bb i v w' := by
  intro i v w w' h hE
  unfold PhiF at *
  split <;> rename_i hi <;> simp only [] at h ⊢ <;> try exact h
  obtain ⟨g, rfl, hg⟩ := h
  exact ⟨g, rfl, (hE.block g (Array.getElem?_eq_some_iff.1 hg).1).trans hg⟩

theorem notefirst_any (w : World) (bb : Nat) (hb : w.heap[bb]? = some (.cells (bkC 0 (.slice none 0 0)) 198 (0, 0))) :
    Calls Tryz.prog 81 #[.pointer (some ⟨bb, 0, none⟩), .int .i64 2, .int .u64 6] w (FirstOut w bb) := by
  have hx : Box w bb (bkC 0 (.slice none 0 0)) := fun j => cell_of_row _ _ _ _ _ _ hb
  obtain ⟨W1, hW1⟩ : ∃ W1, W1 = w.setRow bb (bkC 2 (.slice none 0 0)) := ⟨_, rfl⟩
  have hb1 : W1.heap[bb]? = some (.cells (bkC 2 (.slice none 0 0)) 198 (0, 0)) := by rw [hW1]; exact setRow_heap _ _ _ _ _ _ hb
  have hx1 : Box W1 bb (bkC 2 (.slice none 0 0)) := fun j => cell_of_row _ _ _ _ _ _ hb1
  have hC1 : But bb w W1 := by rw [hW1]; exact But.set _ _ _
  have hbl : bb < W1.heap.size := (Array.getElem?_eq_some_iff.1 hb1).1
  obtain ⟨W2, hW2⟩ : ∃ W2, W2 = W1.alloc (.cells #[.int .i64 2, .int .u64 6] 200) := ⟨_, rfl⟩
  have hE2 : Ext W1 W2 := by rw [hW2]; exact Ext.alloc _ _
  have HSET := Lib.hid ((setRow_alloc W1 #[.int .i64 0, .int .u64 0] #[.int .i64 2, .int .u64 6] 200).trans hW2.symm)
  have HNew := Lib.hid (heap_alloc_new W1 (.cells #[.int .i64 0, .int .u64 0] 200))
  have ce : W2.heap[W1.heap.size]? = some (.cells #[.int .i64 2, .int .u64 6] 200 (0, 0)) := by rw [hW2]; exact heap_alloc_new _ _
  have hb2 := (hE2.block bb hbl).trans hb1
  have HB2 := Lib.hid hb2
  have HCE := Lib.hid ce
  have HC2 := Lib.hid (hC1.trans (But.of_ext hE2))
  have HC1' := Lib.hid (show W2.cell? ⟨bb, 1, none⟩ = some (.int .i64 2) from cell_of_row _ _ 1 _ _ _ hb2)
  have HC3' := Lib.hid (show W2.cell? ⟨bb, 3, none⟩ = some (.slice none 0 0) from cell_of_row _ _ 3 _ _ _ hb2)
  have hbl2 : bb ≠ W1.heap.size := by omega
  have HBLK := Lib.hid hb
  have HW1 := Lib.hid hW1
  have hdm : ((bits .and .i64 2 4294967295).tmod 2 != 0) = false := by decide +kernel
  unfold Box bkC at hx hx1
  unfold bkC at HBLK HW1
  clear hW1 hb1 hC1 hW2 hE2 ce hb2 hb
  go_enter Tryz.func81, Tryz.ntmps81
  go_wp2_with (first | (refine wpList_store_in rfl 2 (.tmp 25) (.tmp 23) rfl bb 2 (.int .i64 2) rfl rfl (by simp [Value.cells, Value.oneCell']) 198 _ HBLK.out (by simp [Value.cells]) infoI64 #[.int .i64 2, .int .i64 2, .int .i64 2, .slice none 0 0, .int .i64 0] (by simp [Value.cells]) ?_; rw [← HW1.out]) | (refine wpList_store_row rfl 200 (.tmp 7) (.tmp 36) rfl W1.heap.size _ rfl rfl 200 _ HNew.out sizeEnt rfl (by simp [Value.oneCell']) ?_; rw [HSET.out]))
  have c1 := HC1'.out
  have c3 := HC3'.out
  refine wp_region_P (by kernel_rfl) (region_vals 80 [.pointer (some ⟨bb, 0, none⟩), .pointer (some ⟨bb, 0, none⟩), .pointer (some ⟨bb, 3, none⟩), .slice none 0 0, .int .i64 0, .pointer (some ⟨bb, 0, none⟩), .pointer (some ⟨bb, 0, none⟩), .pointer (some ⟨bb, 1, none⟩), .int .i64 2, .bool true] rfl (by decide) rfl ?duties ?rest)
  case duties =>
    refine ⟨?_, ?_, ?_, ?_, ?_, ?_, ?_, ?_, ?_, ?_, trivial⟩
    · refine duty_free rfl fun a w' hE hF hA => ?_
      have x1 := hF.slot 0 _ (by decide) rfl
      exact wp_value (w' := w') (v := .pointer (some ⟨bb, 0, none⟩)) (by simp only [execOp, x1]; simp [go_sem]) ⟨_, rfl, rfl, Ext.refl _⟩
    · refine duty_free rfl fun a w' hE hF hA => ?_
      have x1 := hA.val 0 37 rfl rfl ⟨⟨0, .data⟩, by simp, rfl, rfl⟩ rfl
      exact wp_value (w' := w') (v := .pointer (some ⟨bb, 0, none⟩)) (by simp only [execOp, x1]; simp [go_sem]) ⟨_, rfl, rfl, Ext.refl _⟩
    · refine duty_free rfl fun a w' hE hF hA => ?_
      have x1 := hA.val 1 38 rfl rfl ⟨⟨1, .data⟩, by simp, rfl, rfl⟩ rfl
      exact wp_value (w' := w') (v := .pointer (some ⟨bb, 3, none⟩)) (by simp only [execOp, x1]; simp [go_sem]) ⟨_, rfl, rfl, Ext.refl _⟩
    · refine duty_free rfl fun a w' hE hF hA => ?_
      have x1 := hA.val 2 39 rfl rfl ⟨⟨2, .data⟩, by simp, rfl, rfl⟩ rfl
      exact wp_value (ex_cell rfl _ _ x1 ((hE.cell (World.block_lt_of_cell? _ _ c3)).trans c3) rfl Tryz.underlying196) ⟨_, rfl, rfl, Ext.refl _⟩
    · refine duty_free rfl fun a w' hE hF hA => ?_
      have x1 := hA.val 3 40 rfl rfl ⟨⟨3, .data⟩, by simp, rfl, rfl⟩ rfl
      exact wp_value (w' := w') (v := .int .i64 0) (by simp only [execOp, resolve, List.map_toArray, List.map_cons, List.map_nil, x1]; simp [go_sem, invoke, builtin, Builtin.len_]) ⟨_, rfl, rfl, Ext.refl _⟩
    · refine duty_free rfl fun a w' hE hF hA => ?_
      have x1 := hF.slot 0 _ (by decide) rfl
      exact wp_value (w' := w') (v := .pointer (some ⟨bb, 0, none⟩)) (by simp only [execOp, x1]; simp [go_sem]) ⟨_, rfl, rfl, Ext.refl _⟩
    · refine duty_free rfl fun a w' hE hF hA => ?_
      have x1 := hA.val 5 42 rfl rfl ⟨⟨5, .data⟩, by simp, rfl, rfl⟩ rfl
      exact wp_value (w' := w') (v := .pointer (some ⟨bb, 0, none⟩)) (by simp only [execOp, x1]; simp [go_sem]) ⟨_, rfl, rfl, Ext.refl _⟩
    · refine duty_free rfl fun a w' hE hF hA => ?_
      have x1 := hA.val 6 43 rfl rfl ⟨⟨6, .data⟩, by simp, rfl, rfl⟩ rfl
      exact wp_value (w' := w') (v := .pointer (some ⟨bb, 1, none⟩)) (by simp only [execOp, x1]; simp [go_sem]) ⟨_, rfl, rfl, Ext.refl _⟩
    · refine duty_free rfl fun a w' hE hF hA => ?_
      have x1 := hA.val 7 44 rfl rfl ⟨⟨7, .data⟩, by simp, rfl, rfl⟩ rfl
      exact wp_value (ex_cell rfl _ _ x1 ((hE.cell (World.block_lt_of_cell? _ _ c1)).trans c1) rfl Tryz.underlying3) ⟨_, rfl, rfl, Ext.refl _⟩
    · refine duty_free rfl fun a w' hE hF hA => ?_
      have x1 := hA.val 4 41 rfl rfl ⟨⟨4, .data⟩, by simp, rfl, rfl⟩ rfl
      have x2 := hA.val 8 45 rfl rfl ⟨⟨8, .data⟩, by simp, rfl, rfl⟩ rfl
      exact wp_value (w' := w') (v := .bool true) (by simp only [execOp, x1, x2]; simp [go_sem]) ⟨_, rfl, rfl, Ext.refl _⟩
  case rest =>
    intro W3 hE3
    clear c1 c3
    simp only [filled, List.zip_cons_cons, List.zip_nil_left, List.foldl_cons, List.foldl_nil, Act.put, List.setIfInBounds_toArray, List.set_cons_succ, List.set_cons_zero, Exit.then]
    rename_i hK
    refine hK _ _ ?_
    go_wp2
    have hb3 := (hE3.block bb (Array.getElem?_eq_some_iff.1 HB2.out).1).trans HB2.out
    have ce3 := (hE3.block _ (Array.getElem?_eq_some_iff.1 HCE.out).1).trans HCE.out
    have c3 : W3.cell? ⟨bb, 3, none⟩ = some (.slice none 0 0) := cell_of_row _ _ 3 _ _ _ hb3
    obtain ⟨i0, hi, hz0, hz1', hz2⟩ := info_parts infoEnt
    refine wp_region_last_e 80 (by kernel_rfl) (PhiF bb) (PhiF.stab bb) (by decide) rfl 10 _ rfl rfl rfl rfl ?duties2 ?last
    case duties2 =>
      refine ⟨?_, ?_, ?_, ?_, ?_, ?_, ?_, ?_, ?_, ?_, trivial⟩
      · exact duty_free rfl fun a w' hE hF hA => wp_value (w' := w') (ex_move rfl) ⟨_, rfl, hF.slot 0 _ (by decide) rfl, Ext.refl _⟩
      · exact duty_free rfl fun a w' hE hF hA => wp_value (w' := w') (ex_move rfl) ⟨_, rfl, hF.slot 0 _ (by decide) rfl, Ext.refl _⟩
      · refine duty_free rfl fun a w' hE hF hA => ?_
        have x1 : a.eval (.tmp 48) = _ := hA.slot 1 48 rfl rfl ⟨⟨1, .data⟩, by simp, rfl, rfl⟩
        exact wp_value (ex_nilCheck rfl _ x1) ⟨_, rfl, rfl, Ext.refl _⟩
      · refine duty_free rfl fun a w' hE hF hA => ?_
        have x1 : a.eval (.tmp 49) = _ := hA.slot 2 49 rfl rfl ⟨⟨2, .data⟩, by simp, rfl, rfl⟩
        exact wp_value (v := .pointer (some ⟨bb, 3, none⟩)) (w' := w') (by simp only [execOp, x1]; simp [go_sem]) ⟨_, rfl, rfl, Ext.refl _⟩
      · refine duty_free rfl fun a w' hE hF hA => ?_
        have x1 : a.eval (.tmp 50) = _ := hA.slot 3 50 rfl rfl ⟨⟨3, .data⟩, by simp, rfl, rfl⟩
        exact wp_value (ex_cell rfl _ _ x1 ((hE.cell (World.block_lt_of_cell? _ _ c3)).trans c3) rfl Tryz.underlying196) ⟨_, rfl, rfl, Ext.refl _⟩
      · refine duty_free rfl fun a w' hE hF hA => ?_
        have x1 := hF.slot 7 _ (by decide) rfl
        exact wp_value (ex_load_row rfl _ x1 200 _ (0, 0) _ ((hE.block _ (Array.getElem?_eq_some_iff.1 ce3).1).trans ce3) Tryz.underlying200 rfl sizeEnt) ⟨_, rfl, rfl, Ext.refl _⟩
      · refine duty_free rfl fun a w' hE hF hA => ?_
        have x1 : a.eval (.tmp 52) = _ := hA.slot 5 52 rfl rfl ⟨⟨5, .data⟩, by simp, rfl, rfl⟩
        refine wp_buildSlice 196 200 1 _ rfl #[.int .i64 2, .int .u64 6] i0 (.agg #[.int .i64 0, .int .u64 0]) Tryz.underlying196 hi hz0 (by rw [hz1']; decide) (by rw [hz1']; decide) (by simp only [List.map_toArray, List.map_cons, List.map_nil, x1, hz1']; kernel_rfl) ⟨_, rfl, ⟨w'.heap.size, rfl, heap_alloc_new _ _⟩, Ext.alloc _ _⟩
      · refine duty_free rfl fun a w' hE hF hA => ?_
        have x1 : a.eval (.tmp 51) = _ := hA.slot 4 51 rfl rfl ⟨⟨4, .data⟩, by simp, rfl, rfl⟩
        obtain ⟨g, x2, hg⟩ : ∃ g, a.eval (.tmp 53) = .slice (some ⟨g, 0, none⟩) 1 1 ∧ w'.heap[g]? = some (.cells #[.int .i64 2, .int .u64 6] 200 (0, 0)) := hA.slot 6 53 rfl rfl ⟨⟨6, .data⟩, by simp, rfl, rfl⟩
        have hcs : Cells w'.heap.size w' (some ⟨g, 0, none⟩) [.int .i64 2, .int .u64 6] := fun j u hj => ⟨g, 0, rfl, (Array.getElem?_eq_some_iff.1 hg).1, by rw [Nat.zero_add, cell_of_row _ _ _ _ _ _ hg]; simpa using hj⟩
        have hsrc : Src Tryz.prog 2 196 (.slice (some ⟨g, 0, none⟩) 1 1) 1 [.int .i64 2, .int .u64 6] w' := hcs.src Tryz.underlying196 1 1 rfl (by simp [Value.oneCell'])
        obtain ⟨v', w2, hr, hown, hgr, _, _⟩ := run_append_own_src (P := Tryz.prog) w' w'.heap.size 196 196 196 200 i0 (.agg #[.int .i64 0, .int .u64 0]) 2 16 Tryz.underlying196 hi hz0 hz1' hz2 rfl (by decide) (.slice none 0 0) 0 [] (World.ownsRow_nil _ _ _ _) _ 1 _ hsrc (by unfold maxLen; omega) (by omega) (Nat.le_refl _)
        obtain ⟨a', c', rfl, _⟩ := ownsRow_from hown
        exact wp_value (ex_append rfl (by rw [x1, x2]; exact hr)) ⟨_, rfl, ⟨a', c', rfl⟩, ⟨hgr.os, hgr.tape, hgr.output, hgr.size, fun k hk => hgr.block k hk (by simp [Value.ownBlock])⟩⟩
      · refine duty_free rfl fun a w' hE hF hA => ?_
        have x1 : a.eval (.tmp 47) = _ := hA.slot 0 47 rfl rfl ⟨⟨0, .data⟩, by simp, rfl, rfl⟩
        exact wp_value (ex_nilCheck rfl _ x1) ⟨_, rfl, rfl, Ext.refl _⟩
      · refine duty_free rfl fun a w' hE hF hA => ?_
        have x1 : a.eval (.tmp 55) = _ := hA.slot 8 55 rfl rfl ⟨⟨8, .data⟩, by simp, rfl, rfl⟩
        exact wp_value (v := .pointer (some ⟨bb, 3, none⟩)) (w' := w') (by simp only [execOp, x1]; simp [go_sem]) ⟨_, rfl, rfl, Ext.refl _⟩
    case last =>
      intro us W4 hE4 hl hP
      have hl' : us.length = 10 := by simpa using hl
      clear hl
      obtain ⟨u0, u1, u2, u3, u4, u5, u6, u7, u8, u9, rfl⟩ := us10 us hl'
      have h7 : ∃ a c, u7 = .slice a 1 c := hP 7 u7 rfl
      have h7a := h7.choose_spec
      generalize h7.choose = a' at h7a
      have h7b := h7a.choose_spec
      generalize h7a.choose = c' at h7b
      have h9 : u9 = .pointer (some ⟨bb, 3, none⟩) := hP 9 u9 rfl
      subst h7b h9
      clear h7 h7a
      have hb4 := (hE4.block bb (Array.getElem?_eq_some_iff.1 hb3).1).trans hb3
      have hfin : FirstOut w bb (.returned (.bool true)) (W4.setRow bb #[.int .i64 2, .int .i64 2, .int .i64 2, .slice a' 1 c', .int .i64 0]) :=
        ⟨rfl, ⟨_, setRow_heap _ _ _ _ _ _ hb4, a', c', rfl⟩, ((HC2.out.trans (But.of_ext hE3)).trans (But.of_ext hE4)).trans (But.set _ _ _)⟩
      have HFIN := Lib.hid hfin
      have HB4 := Lib.hid hb4
      unfold bkC at HB4
      clear hfin hb4 hb3 ce3 c3 hP hl'
      simp only [filled, List.take_succ_cons, List.take_zero, List.zip_cons_cons, List.zip_nil_left, List.foldl_cons, List.foldl_nil, Act.put, List.setIfInBounds_toArray, List.set_cons_succ, List.set_cons_zero]
      refine wp_store_in 196 (.tmp 56) (.tmp 54) bb 3 (.slice a' 1 c') 198 _ #[.int .i64 2, .int .i64 2, .int .i64 2, .slice a' 1 c', .int .i64 0] HB4.out (by simp [Value.cells]) infoEnts (by simp [Value.cells]) (by simp [Value.cells, Value.oneCell']) ?_ rfl rfl rfl
      simp only [Exit.inBlock, Exit.then, Act.put]
      rename_i hK2
      refine hK2 _ _ ?_
      go_wp2
      go_ret
      exact HFIN.out
end Go.Proofs.YtamolbegmkngdaaGreatDoor
namespace Go.Proofs.YtamolbegmkngdaaGreatDoor
open Go.RowKit
set_option maxHeartbeats 4000000
set_option maxRecDepth 100000

theorem blen_row (w : World) (bb : Nat) (a : Option Addr) (n c : Nat) (h3 : w.cell? ⟨bb, 3, none⟩ = some (.slice a n c)) : Calls Tryz.prog 82 #[.pointer (some ⟨bb, 0, none⟩)] w fun e w' => e = .returned (.int .i64 n) ∧ w = w' := by
  go_enter Tryz.func82, Tryz.ntmps82
  go_wp2
  go_ret
  exact ⟨rfl, rfl⟩

theorem root_number : addN 0 [rootN] ≠ 0 := by decide +kernel

theorem alive9_any (w : World) (hT : Tabs w) : Calls Tryz.prog 16 #[] w fun e w' => e = .returned (.bool true) ∧ Ext w w' := by
  have hsz := hT.size
  have C1 := newbook_any 2 2 w
  unfold NewBookOut at C1
  simp only [show ((1 : Int) ≤ 2 ∧ (1 : Int) ≤ 2) from by decide, if_true, and_self] at C1
  have C1 := Lib.hid C1
  have HT := Lib.hid hT
  clear hT
  go_enter Tryz.func16, Tryz.ntmps16
  go_wp2_with fail
  refine C1.out.mono ?_
  rintro e W1 ⟨bb, rfl, hbb, hB, hE1⟩
  have hbl := hB.bound _ hB.mine
  have C2 : Calls Tryz.prog 80 #[.slice none 0 0] W1 fun e w' => e = .returned (.int .u64 14695981039346656037) ∧ W1 = w' := sum_any none 0 [] W1 (Cells.nil _ _ _) (by simp)
  have C2 := Lib.hid C2
  have C3 := Lib.hid (notefirst_any W1 bb hB.blk)
  have HE1 := Lib.hid hE1
  have hz1 := hE1.size
  clear hB hE1 C1
  go_wp2_with fail
  refine C2.out.mono ?_
  rintro e W2 ⟨rfl, rfl⟩
  clear C2
  go_wp2_with fail
  refine C3.out.mono ?_
  rintro e W2 ⟨rfl, ⟨v, hrow, a, c, rfl⟩, hBut⟩
  have hB2 : Ext w W2 := HE1.out.trans' (hBut.below hbb (by omega))
  have C4 := Lib.hid (blen_row W2 bb a 1 c (cell_of_row _ _ 3 _ _ _ hrow))
  have C5 := Lib.hid (new_any W2)
  have HB2 := Lib.hid hB2
  clear C3 hrow hBut hB2
  go_wp2_with fail
  refine C4.out.mono ?_
  rintro e W3 ⟨rfl, rfl⟩
  clear C4
  go_wp2_with fail
  refine C5.out.mono ?_
  rintro e W3 ⟨bt, rfl, hTr, hE3⟩
  have hE3 : Ext W2 W3 := hE3
  have hB3 := HB2.out.trans hE3
  have C6 := dof_any _ W3 bt _ _ hTr (HT.out.below hB3 hsz) (by simp)
  simp only [List.map_cons, List.map_nil] at C6
  have C6 := Lib.hid C6
  have HB3 := Lib.hid hB3
  have hne : (addN 0 [rootN] != 0) = true := by simpa using root_number
  have hne2 : decide (addN 0 [rootN] = 0) = false := by simpa using root_number
  clear hTr hE3 hB3 C5
  go_wp2_with fail
  refine C6.out.mono ?_
  rintro e W4 ⟨rfl, hE4⟩
  have HFIN := Lib.hid (HB3.out.trans hE4)
  clear hE4 C6
  go_wp2
  go_ret
  exact ⟨rfl, HFIN.out⟩
end Go.Proofs.YtamolbegmkngdaaGreatDoor
namespace Go.Proofs.YtamolbegmkngdaaGreatDoor
open Go.RowKit
set_option maxHeartbeats 1000000

/-- The steps from a path to the root: is s among them? -/
def undF : Nat → ByteArray → ByteArray → Bool
  | 0, p, s => p.data == s.data
  | f + 1, p, s => p.data == s.data || (p.size != 1 && undF f (parentB p) s)
def und (p s : ByteArray) : Bool := undF p.size p s

/-- Each node's parent is there. -/
def Clo (M : List (Key × Nd)) : Prop := ∀ x ∈ M, x.2.path.size ≠ 1 → ∃ y ∈ M, y.2.path = parentB x.2.path

theorem und_self (p : ByteArray) : und p p = true := by
  unfold und
  cases p.size <;> simp [undF]

theorem und_size {M : List (Key × Nd)} (hM : MOk M) (hc : Clo M) : ∀ (f : Nat) (x : Key × Nd), x ∈ M → ∀ s, undF f x.2.path s = true → s.size ≤ x.2.path.size
  | 0, x, _, s, h => by
    have : x.2.path = s := by
      simp only [undF, beq_iff_eq] at h
      exact ByteArray.ext h
    rw [this]; exact Nat.le_refl _
  | f + 1, x, hx, s, h => by
    simp only [undF, Bool.or_eq_true, beq_iff_eq, Bool.and_eq_true, bne_iff_ne, ne_eq] at h
    rcases h with h | ⟨h1, h⟩
    · have : x.2.path = s := ByteArray.ext h
      rw [this]; exact Nat.le_refl _
    · obtain ⟨y, hy, ey⟩ := hc x hx h1
      have := und_size hM hc f y hy s (by rw [ey]; exact h)
      have hs := (path_split (right_vpath (hM.right x hx)) h1).2.2.1
      rw [ey] at this
      omega

theorem MOk.pos {M : List (Key × Nd)} (hM : MOk M) {x : Key × Nd} (hx : x ∈ M) : 0 < x.2.path.size := by
  have := (vpath_facts (right_vpath (hM.right x hx))).1
  omega

theorem und_fuel {M : List (Key × Nd)} (hM : MOk M) (hc : Clo M) : ∀ (f g : Nat) (x : Key × Nd), x ∈ M → x.2.path.size ≤ f → x.2.path.size ≤ g → ∀ s, undF f x.2.path s = undF g x.2.path s
  | 0, _, x, hx, hf, _, s => by have := hM.pos hx; omega
  | _ + 1, 0, x, hx, _, hg, s => by have := hM.pos hx; omega
  | f + 1, g + 1, x, hx, hf, hg, s => by
    simp only [undF]
    by_cases h1 : x.2.path.size = 1
    · simp only [h1, bne_self_eq_false, Bool.false_and]
    · obtain ⟨y, hy, ey⟩ := hc x hx h1
      have hs := (path_split (right_vpath (hM.right x hx)) h1).2.2.1
      have e1 := und_fuel hM hc f g y hy (by rw [ey]; omega) (by rw [ey]; omega) s
      rw [ey] at e1
      rw [e1]

theorem und_one {M : List (Key × Nd)} (hM : MOk M) {x : Key × Nd} (hx : x ∈ M) (h1 : x.2.path.size = 1) (s : ByteArray) : und x.2.path s = (x.2.path.data == s.data) := by
  unfold und
  rw [h1]
  simp only [undF, h1, bne_self_eq_false, Bool.false_and, Bool.or_false]

theorem und_up {M : List (Key × Nd)} (hM : MOk M) (hc : Clo M) {x y : Key × Nd} (hx : x ∈ M) (hy : y ∈ M) (h1 : x.2.path.size ≠ 1) (ey : y.2.path = parentB x.2.path) (s : ByteArray) :
    und x.2.path s = (x.2.path.data == s.data || und y.2.path s) := by
  have hp := hM.pos hx
  have hs := (path_split (right_vpath (hM.right x hx)) h1).2.2.1
  obtain ⟨g, hg⟩ : ∃ g, x.2.path.size = g + 1 := ⟨x.2.path.size - 1, by omega⟩
  have e1 := und_fuel hM hc g y.2.path.size y hy (by rw [ey]; omega) (Nat.le_refl _) s
  have h2 : (x.2.path.size != 1) = true := by simpa using h1
  unfold und
  rw [hg]
  simp only [undF]
  rw [hg] at h2
  rw [hg, h2, ← ey, e1, Bool.true_and]

theorem und_le {M : List (Key × Nd)} (hM : MOk M) (hc : Clo M) {x : Key × Nd} (hx : x ∈ M) {s : ByteArray} (h : und x.2.path s = true) : s.size ≤ x.2.path.size := und_size hM hc _ x hx s h

section sums
variable {α β : Type}
theorem sum_add (l : List α) (a b : α → Nat) : (l.map fun x => a x + b x).sum = (l.map a).sum + (l.map b).sum := by
  induction l with
  | nil => rfl
  | cons x l ih => simp only [List.map_cons, List.sum_cons]; omega
theorem sum_zero (l : List α) (a : α → Nat) (h : ∀ x ∈ l, a x = 0) : (l.map a).sum = 0 := by
  induction l with
  | nil => rfl
  | cons x l ih => simp only [List.map_cons, List.sum_cons]; rw [h x (List.mem_cons_self ..), ih fun y hy => h y (List.mem_cons_of_mem _ hy)]
theorem sum_congr (l : List α) (a b : α → Nat) (h : ∀ x ∈ l, a x = b x) : (l.map a).sum = (l.map b).sum := by
  rw [List.map_congr_left h]
theorem sum_swap (l : List α) (m : List β) (a : α → β → Nat) : (l.map fun x => (m.map fun y => a x y).sum).sum = (m.map fun y => (l.map fun x => a x y).sum).sum := by
  induction l with
  | nil => exact (sum_zero m _ fun _ _ => rfl).symm
  | cons x l ih => simp only [List.map_cons, List.sum_cons]; rw [sum_add m (fun y => a x y), ih]
theorem sum_mul (l : List α) (a : α → Nat) (k : Nat) : k * (l.map a).sum = (l.map fun x => k * a x).sum := by
  induction l with
  | nil => rfl
  | cons x l ih => simp only [List.map_cons, List.sum_cons]; rw [Nat.mul_add, ih]
theorem sum_filter (l : List α) (p : α → Bool) (a : α → Nat) : ((l.filter p).map a).sum = (l.map fun x => if p x = true then a x else 0).sum := by
  induction l with
  | nil => rfl
  | cons x l ih =>
    rw [List.filter_cons]
    cases h : p x <;> simp [h, ih]
end sums

theorem mem_path {M : List (Key × Nd)} (hM : MOk M) {x y : Key × Nd} (hx : x ∈ M) (hy : y ∈ M) (h : x.2.path = y.2.path) : x = y := by
  have k1 : x.1 = y.1 := by rw [hM.key x hx, hM.key y hy]; unfold keyN; rw [h]
  rcases List.getElem_of_mem hx with ⟨i, hi, ei⟩
  rcases List.getElem_of_mem hy with ⟨j, hj, ej⟩
  rcases Nat.lt_trichotomy i j with hij | hij | hij
  · have := sorted_at hM.sorted hij hj
    rw [ei, ej, k1] at this
    exact (before_asymm this this).elim
  · subst hij; rw [← ei, ← ej]
  · have := sorted_at hM.sorted hij hi
    rw [ei, ej, k1] at this
    exact (before_asymm this this).elim

theorem sum_at {M : List (Key × Nd)} (hM : MOk M) {x : Key × Nd} (hx : x ∈ M) (a : Key × Nd → Nat) : (M.map fun c => if c.2.path = x.2.path then a c else 0).sum = a x := by
  obtain ⟨l, r, e⟩ := List.append_of_mem hx
  have hn : ∀ y, (y ∈ l ∨ y ∈ r) → y.2.path ≠ x.2.path := by
    intro y hy h
    have hyM : y ∈ M := by rw [e]; rcases hy with hy | hy <;> simp [hy]
    have hs := hM.sorted
    rw [e] at hs
    have k1 : y.1 = x.1 := by rw [hM.key x hx, hM.key y hyM]; unfold keyN; rw [h]
    have hs' := List.pairwise_append.1 hs
    rcases hy with hy | hy
    · have := hs'.2.2 y hy x (List.mem_cons_self ..)
      rw [k1] at this
      exact before_asymm this this
    · have := (List.pairwise_cons.1 hs'.2.1).1 y hy
      rw [k1] at this
      exact before_asymm this this
  rw [e, List.map_append, List.sum_append, List.map_cons, List.sum_cons, sum_zero l _ fun y hy => if_neg (hn y (.inl hy)), sum_zero r _ fun y hy => if_neg (hn y (.inr hy)), if_pos rfl]
  omega

def bN (b : Bool) : Nat := if b = true then 1 else 0
theorem und_split {M : List (Key × Nd)} (hM : MOk M) (hc : Clo M) {s : Key × Nd} (hs : s ∈ M) : ∀ (f : Nat) (x : Key × Nd), x ∈ M → x.2.path.size ≤ f →
    bN (und x.2.path s.2.path) = (if x.2.path = s.2.path then 1 else 0) + (M.map fun c => if childOf s.2.path c.2 = true then bN (und x.2.path c.2.path) else 0).sum
  | 0, x, hx, hf => by have := hM.pos hx; omega
  | f + 1, x, hx, hf => by
    have hsm : ∀ c ∈ M, childOf s.2.path c.2 = true → s.2.path.size < c.2.path.size := fun c hcM h => by
      obtain ⟨h1, h2⟩ := childOf_iff.1 h
      have := (path_split (right_vpath (hM.right c hcM)) h1).2.2.1
      rw [h2] at this
      exact this
    by_cases he : x.2.path = s.2.path
    · rw [if_pos he, sum_zero M _ fun c hcM => ?_, he, und_self]; rfl
      split
      · rename_i h
        have hb : und x.2.path c.2.path = false := by
          cases hb : und x.2.path c.2.path with
          | false => rfl
          | true =>
            have := und_le hM hc hx hb
            have := hsm c hcM h
            rw [he] at *
            omega
        rw [hb]; rfl
      · rfl
    · rw [if_neg he]
      have hd : (x.2.path.data == s.2.path.data) = false := by
        cases hb : (x.2.path.data == s.2.path.data) with
        | false => rfl
        | true => exact absurd (ByteArray.ext (beq_iff_eq.1 hb)) he
      by_cases h1 : x.2.path.size = 1
      · rw [und_one hM hx h1, hd, sum_zero M _ fun c hcM => ?_]; rfl
        split
        · rename_i h
          have hcs := (childOf_iff.1 h).1
          rw [und_one hM hx h1]
          cases hb : (x.2.path.data == c.2.path.data) with
          | false => rfl
          | true => rw [ByteArray.ext (beq_iff_eq.1 hb)] at h1; exact absurd h1 hcs
        · rfl
      · obtain ⟨y, hy, ey⟩ := hc x hx h1
        have hsz := (path_split (right_vpath (hM.right x hx)) h1).2.2.1
        have ih := und_split hM hc hs f y hy (by rw [ey]; omega)
        rw [und_up hM hc hx hy h1 ey, hd, Bool.false_or, ih]
        have hS := sum_at hM hx (fun c => if childOf s.2.path c.2 = true then 1 else 0)
        have hy' : (if y.2.path = s.2.path then 1 else 0) = (if childOf s.2.path x.2 = true then 1 else 0 : Nat) := by
          by_cases hq : y.2.path = s.2.path
          · rw [if_pos hq, if_pos (childOf_iff.2 ⟨h1, by rw [← ey]; exact hq⟩)]
          · rw [if_neg hq, if_neg fun h => hq (by rw [ey]; exact (childOf_iff.1 h).2)]
        rw [hy', ← hS, ← sum_add, Nat.zero_add]
        refine sum_congr M _ _ fun c hcM => ?_
        by_cases hch : childOf s.2.path c.2 = true
        · rw [if_pos hch, if_pos hch, if_pos hch, und_up hM hc hx hy h1 ey]
          by_cases hxc : c.2.path = x.2.path
          · have hb : und y.2.path c.2.path = false := by
              cases hb : und y.2.path c.2.path with
              | false => rfl
              | true =>
                have := und_le hM hc hy hb
                rw [hxc, ey] at this
                omega
            rw [if_pos hxc, hb, hxc]
            simp [bN]
          · have hb : (x.2.path.data == c.2.path.data) = false := by
              cases hb : (x.2.path.data == c.2.path.data) with
              | false => rfl
              | true => exact absurd (ByteArray.ext (beq_iff_eq.1 hb)).symm hxc
            rw [if_neg hxc, hb, Bool.false_or]
            omega
        · rw [if_neg hch, if_neg hch, if_neg hch]
          split <;> rfl

/-- What is under s, weighed. -/
def wtN (M : List (Key × Nd)) (s : ByteArray) (a : Nd → Nat) : Nat := ((M.filter fun x => und x.2.path s).map fun x => a x.2).sum
theorem wt_split {M : List (Key × Nd)} (hM : MOk M) (hc : Clo M) {s : Key × Nd} (hs : s ∈ M) (a : Nd → Nat) :
    wtN M s.2.path a = a s.2 + ((M.filter fun c => childOf s.2.path c.2).map fun c => wtN M c.2.path a).sum := by
  have h0 : ∀ t : ByteArray, wtN M t a = (M.map fun x => a x.2 * bN (und x.2.path t)).sum := fun t => by
    unfold wtN
    rw [sum_filter]
    refine sum_congr M _ _ fun x _ => ?_
    unfold bN
    split <;> simp
  have h1 : (M.map fun x => a x.2 * bN (und x.2.path s.2.path)).sum = (M.map fun x => (if x.2.path = s.2.path then a x.2 else 0) + (M.map fun c => if childOf s.2.path c.2 = true then a x.2 * bN (und x.2.path c.2.path) else 0).sum).sum := by
    refine sum_congr M _ _ fun x hx => ?_
    rw [und_split hM hc hs _ x hx (Nat.le_refl _), Nat.mul_add, sum_mul]
    congr 1
    · split <;> simp
    · refine sum_congr M _ _ fun c _ => ?_
      split <;> simp
  rw [h0, h1, sum_add, sum_at hM hs (fun x => a x.2), sum_swap, sum_filter]
  congr 1
  refine sum_congr M _ _ fun c _ => ?_
  by_cases h : childOf s.2.path c.2 = true
  · simp only [h, if_true]
    rw [h0]
  · simp only [h, if_false]
    exact sum_zero M _ fun _ _ => rfl

theorem fromL_mem : ∀ (L : List Nd) (i : Nat) (M M' : List (Key × Nd)), fromL L i M = .ok M' → ∀ x ∈ M', x ∈ M ∨ x.2 ∈ L
  | [], _, M, M', h, x, hx => by
    simp only [fromL, Except.ok.injEq] at h
    subst h; exact .inl hx
  | n :: l, i, M, M', h, x, hx => by
    simp only [fromL] at h
    split at h
    · cases h
    split at h
    · cases h
    rcases fromL_mem l _ _ _ h x hx with h' | h'
    · rcases mem_mput.1 h' with rfl | ⟨h', _⟩
      · exact .inr (List.mem_cons_self ..)
      · exact .inl h'
    · exact .inr (List.mem_cons_of_mem _ h')
theorem parL_mem {M : List (Key × Nd)} : ∀ (L : List Nd) (i : Nat), parL M L i = .ok () → ∀ n ∈ L, n.path.size ≠ 1 → mget M (parentB n.path).data.toList ≠ none
  | [], _, _, n, hn, _ => by simp at hn
  | m :: l, i, h, n, hn, h1 => by
    simp only [parL] at h
    split at h
    · cases h
    rename_i hm
    rcases List.mem_cons.1 hn with rfl | hn
    · exact fun h2 => hm ⟨h1, h2⟩
    · exact parL_mem l _ h n hn h1
theorem fromN_clo {L : List Nd} {M : List (Key × Nd)} (hM : MOk M) (h : fromN L = .ok M) : Clo M := by
  unfold fromN at h
  cases hf : fromL L 0 [] with
  | error e => rw [hf] at h; cases h
  | ok M1 =>
    rw [hf] at h
    simp only at h
    split at h
    · cases h
    cases hp : parL M1 L 0 with
    | error e => rw [hp] at h; cases h
    | ok u =>
      rw [hp] at h
      simp only [Except.ok.injEq] at h
      subst h
      intro x hx h1
      have hxL : x.2 ∈ L := by
        rcases fromL_mem L 0 [] _ hf x hx with h | h
        · simp at h
        · exact h
      have := parL_mem L 0 hp x.2 hxL h1
      cases hg : mget M1 (parentB x.2.path).data.toList with
      | none => exact absurd hg this
      | some n =>
        refine ⟨_, mget_some_mem hg, ?_⟩
        have := (hM.at hg).1
        unfold keyN at this
        exact (ba_ext this).symm

/-- A list that holds s and the children of each that it holds has all that is under s. -/
theorem und_closed {M : List (Key × Nd)} (hM : MOk M) (hc : Clo M) (s : ByteArray) (l : List ByteArray) (hs : s ∈ l) (hl : ∀ x ∈ M, x.2.path.size ≠ 1 → parentB x.2.path ∈ l → x.2.path ∈ l) :
    ∀ (f : Nat) (x : Key × Nd), x ∈ M → x.2.path.size ≤ f → und x.2.path s = true → x.2.path ∈ l
  | 0, x, hx, hf, _ => by have := hM.pos hx; omega
  | f + 1, x, hx, hf, h => by
    by_cases h1 : x.2.path.size = 1
    · rw [und_one hM hx h1] at h
      rw [ByteArray.ext (beq_iff_eq.1 h)]; exact hs
    · obtain ⟨y, hy, ey⟩ := hc x hx h1
      have hsz := (path_split (right_vpath (hM.right x hx)) h1).2.2.1
      rw [und_up hM hc hx hy h1 ey, Bool.or_eq_true] at h
      rcases h with h | h
      · rw [ByteArray.ext (beq_iff_eq.1 h)]; exact hs
      · exact hl x hx h1 (by rw [← ey]; exact und_closed hM hc s l hs hl f y hy (by rw [ey]; omega) h)

theorem und_child {M : List (Key × Nd)} (hM : MOk M) (hc : Clo M) {x y : Key × Nd} (hx : x ∈ M) (hy : y ∈ M) (h : childOf y.2.path x.2 = true) (s : ByteArray) (hu : und y.2.path s = true) : und x.2.path s = true := by
  obtain ⟨h1, h2⟩ := childOf_iff.1 h
  rw [und_up hM hc hx hy h1 h2.symm, hu, Bool.or_true]
end Go.Proofs.YtamolbegmkngdaaGreatDoor
