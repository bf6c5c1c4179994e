/- The walk of arborref07's Insert. A node that was cloned for it is appended to a row of the call's own: one law for the walk. Maps keyed by int64s, as lists of keys and values in order: what each operation on a map makes of the list. Plain laws: sessions, and tables of them: as lists that rise by id. No program in sight. Identities and sessions in memory; the walk of the clone of a list of identities. Two lists keyed by int64s whose values stand to one another: plain laws. A table of sessions in memory: what its blocks hold; how that stays and turns; the walks of New and own. -/
import Derived.Test.YtclekhjnnljjlaaGreatDoorJFuzzyWhole8
import Derived.Test.YtclekhjnnljjlaaGreatDoorJFuzzyWhole7
import Derived.Test.YtclekhjnnljjlaaGreatDoorJFuzzyWhole3
import Derived.Maps.Range
import Derived.Test.YtclekhjnnljjlaaGreatDoorJFuzzyWhole2
import Derived.Test.YtclekhjnnljjlaaGreatDoorJFuzzyWhole4
namespace Go.Proofs.YtclekhjnnljjlaaGreatDoor
open Go.RowKit
set_option maxHeartbeats 2000000
set_option maxRecDepth 100000

/-- The document's tree, its rows in whatever blocks but its own. -/
def RT (w : World) (b : Nat) (L : List Nd) : Prop := RTree (fun k => k < w.heap.size ∧ k ≠ b) w b L
theorem RTree.rt {S : Nat → Prop} {w : World} {b : Nat} {L : List Nd} (h : RTree S w b L) : RT w b L := h.keep h.bound rfl (fun _ _ => rfl) fun _ h => h
theorem RT.ext {w w' : World} {b : Nat} {L : List Nd} (h : RT w b L) (he : Ext w w') : RT w' b L := (RTree.ext h he).rt
theorem RT.lt {w : World} {b : Nat} {L : List Nd} (h : RT w b L) : b < w.heap.size := RTree.lt h

set_option maxHeartbeats 4000000 in
theorem rinsert_s (S : Nat → Prop) (w : World) (b : Nat) (L : List Nd) (n : Nd) (da aa : Option Addr) (dc ac : Nat) (hR : RTree S w b L) (hfL : ∀ m ∈ L, Fit m) (hf : Fit n) (hD : Cells w.heap.size w da (n.data.map u8v)) (hA : Cells w.heap.size w aa (acCs n.acl)) (hl : (L.length + 1) * 168 ≤ 140737488355328) :
    Calls Tryz.prog 42 #[.pointer (some ⟨b, 0, none⟩), .agg (ndC n (.slice da n.data.length dc) (.slice aa n.acl.length ac))] w fun e w' => e = .returned (.tuple #[]) ∧ RTree (fun k => S k ∨ (w.heap.size ≤ k ∧ k < w'.heap.size)) w' b (L.take (rfind L n.path).1 ++ n :: L.drop (rfind L n.path).1) ∧ Chg (· = b) w w' := by
  have hS0 := hR.bound
  obtain ⟨W1, hW1⟩ : ∃ W1, W1 = w.alloc (.cells (ndC n (.slice da n.data.length dc) (.slice aa n.acl.length ac)) 88) := ⟨_, rfl⟩
  have hE1 : Ext w W1 := by rw [hW1]; exact Ext.alloc _ _
  have hz1 : W1.heap.size = w.heap.size + 1 := by rw [hW1]; simp
  have hn1 : W1.heap[w.heap.size]? = some (.cells (ndC n (.slice da n.data.length dc) (.slice aa n.acl.length ac)) 88 (0, 0)) := by rw [hW1]; exact heap_alloc_new w _
  have hx : Box W1 w.heap.size (ndC n (.slice da n.data.length dc) (.slice aa n.acl.length ac)) := fun j => cell_of_row _ _ _ _ _ _ hn1
  have hR1 : RTree S W1 b L := hR.ext hE1
  have hbl := hR.lt
  have C1 := Lib.hid (rfind_any S W1 b L hR1 hfL n.path hf.path)
  have hik := rfind_le L n.path
  generalize (rfind L n.path).1 = i at *
  generalize (rfind L n.path).2 = th at *
  have HW1 := Lib.hid hW1
  have HD := Lib.hid hD
  have HA := Lib.hid hA
  have HN1 := Lib.hid hn1
  have HR1 := Lib.hid hR1
  have HE1 := Lib.hid hE1
  rw [hW1] at hx
  unfold Box at hx
  unfold ndC at hx HW1
  clear hW1 hD hA hn1 hR1 hR hE1
  unfold ndC
  go_enter Tryz.func42, Tryz.ntmps42
  go_wp2_with fail
  rw [← HW1.out]
  refine C1.out.mono ?_
  rintro e W2 ⟨rfl, hE2⟩
  clear hx C1
  obtain ⟨a, cap, vs, hb2, hlc, hcm, hS2, hrows, hpl⟩ := RTree.ext HR1.out hE2
  have hz2 := hE2.size
  have hc2 : W2.cell? ⟨b, 0, none⟩ = some (.slice a L.length cap) := cell_of_row _ _ _ _ _ _ hb2
  have hsl1 := fun W => run_slice_to a L.length cap i (fun p hp => by
    rcases hpl with ⟨h, _⟩ | ⟨bl, off, h⟩
    · rw [h] at hp; cases hp
    · exact ⟨bl, off, by rw [h] at hp; exact (Option.some.inj hp).symm⟩) (by omega) W
  obtain ⟨v3, hsl2, hsrcf⟩ : ∃ v3, (∀ W, (Instr.slice 22 (.slice a L.length cap) (some (.int .i64 i)) none none).run Tryz.prog W = .ok v3 W) ∧ ∀ W S, RowsOf S W a vs L → (∀ k, S k → k < W.heap.size) → Src Tryz.prog 17 22 v3 (L.length - i) ((vs.drop i).flatMap Array.toList) W := by
    rcases hpl with ⟨h, h0⟩ | ⟨bl, off, h⟩
    · subst h h0
      have hL0 : L.length = 0 := by omega
      have hi0 : i = 0 := by omega
      subst hi0
      rw [hL0]
      refine ⟨.slice none 0 0, run_slice_nil, fun W S hr hS => ?_⟩
      have hv0 : vs = [] := List.eq_nil_of_length_eq_zero (by rw [hr.len]; exact hL0)
      subst hv0
      exact (Cells.nil W.heap.size W none).src Tryz.underlying22 0 0 rfl (fun u hu => by simp at hu)
    · subst h
      exact ⟨_, run_slice_from bl off L.length cap i hik hlc, fun W S hr hS => hr.src_from hik hlc hS⟩
  -- the first part
  obtain ⟨i0, hi, hz0, hz1', hz2'⟩ := info_parts infoNd
  obtain ⟨W3, hW3⟩ : ∃ W3, W3 = W2.alloc (.cells #[] 88) := ⟨_, rfl⟩
  have hE3 : Ext W2 W3 := by rw [hW3]; exact Ext.alloc _ _
  have hz3 : W3.heap.size = W2.heap.size + 1 := by rw [hW3]; simp
  have hown0 : W3.ownsRow W2.heap.size 88 17 (.slice (some ⟨W2.heap.size, 0, none⟩) 0 0) 0 [] := by rw [hW3]; exact World.ownsRow_made W2 #[] 0 (Nat.le_refl _) (Nat.zero_le _) rfl
  have hrows3 : RowsOf S W3 a vs L := hrows.imp (fun _ h => h) (fun k hk => hE3.block k (hS2 k hk).1)
  have hsrc1 := hrows3.src_to (cap := cap) hik (fun k hk => by have := (hS0 k hk).1; omega)
  have hc3 : W3.cell? ⟨b, 0, none⟩ = some (.slice a L.length cap) := (hE3.cell (p := ⟨b, 0, none⟩) (show b < W2.heap.size by omega)).trans hc2
  have HW3 := Lib.hid hW3
  have HE2 := Lib.hid hE2
  have HE3 := Lib.hid hE3
  have HB2 := Lib.hid hb2
  have HSF := Lib.hid hsrcf
  have HRW3 := Lib.hid hrows3
  rw [hW3] at hown0 hsrc1 hc3
  clear hW3 hE2 hE3 hb2 hsrcf hrows3 hrows hS2 hpl
  go_wp2_with (at_builtin; refine wpList_append_src _ rfl (.tmp 14) (.tmp 20) 22 22 rfl W2.heap.size 88 i0 (.agg zeroNd) 17 168 Tryz.underlying22 hi hz0 hz1' hz2' rfl (by decide) _ 0 _ rfl hown0 _ i _ rfl hsrc1 ?c1 ?c2 ?c3 ?_)
  case c1 => unfold maxLen at *; omega
  case c2 => omega
  case c3 => simp
  intro v1 w4 hown1 hg1 _ _
  rw [← HW3.out] at hg1
  try simp only [List.nil_append, Nat.zero_add] at hown1
  have hz4 := hg1.size
  have hE24 : Ext W2 w4 := ⟨hg1.os.trans HE3.out.os, hg1.tape.trans HE3.out.tape, hg1.output.trans HE3.out.output, by omega, fun k hk => (hg1.block k (by omega) (fun e => by have h : k = W2.heap.size := Option.some.inj e; omega)).trans (HE3.out.block k hk)⟩
  have hEw4 : Ext w w4 := (HE1.out.trans HE2.out).trans hE24
  have hn4 : w4.heap[w.heap.size]? = some (.cells (ndC n (.slice da n.data.length dc) (.slice aa n.acl.length ac)) 88 (0, 0)) := (hE24.block _ (by omega)).trans ((HE2.out.block _ (by omega)).trans HN1.out)
  have C2 := Lib.hid (rclone_new n da aa dc ac w4 hf (HD.out.ext hEw4) (HA.out.ext hEw4))
  have hv1 : ∀ k, v1.ownBlock = some k → W2.heap.size ≤ k ∧ k < w4.heap.size := fun k hk => hown1.lt k hk
  have HN4 := Lib.hid hn4
  have HE24 := Lib.hid hE24
  have HO1 := Lib.hid hown1
  have HV1 := Lib.hid hv1
  unfold ndC at HN4
  clear hE24 hEw4 hn4 hown1 hv1 hg1 hown0 hsrc1 hc2 hc3 HW3
  go_wp2_with (refine wpList_load_row rfl 88 (.tmp 3) rfl w.heap.size rfl 88 _ (0, 0) _ HN4.out Tryz.underlying88 rfl sizeNd ?_)
  refine C2.out.mono ?_
  rintro e w5 ⟨v, rfl, ⟨ea, ec, fa, fc, rfl, hD5, hA5⟩, hE5⟩
  have hE5 : Ext w4 w5 := hE5
  have hz5 := hE5.size
  obtain ⟨cs, hcs⟩ : ∃ cs, cs = ndC n (.slice ea n.data.length ec) (.slice fa n.acl.length fc) := ⟨_, rfl⟩
  have hown5 := (HO1.out.kept (grown_of_ext hE5 none) (by cases h : v1.ownBlock <;> simp)).alloc (.cells cs 88)
  have hs17 : Cells (w5.alloc (.cells cs 88)).heap.size (w5.alloc (.cells cs 88)) (some ⟨w5.heap.size, 0, none⟩) cs.toList := fun j u hj => by
    refine ⟨_, 0, rfl, by simp, ?_⟩
    rw [Nat.zero_add, cell_of_row _ _ _ _ _ _ (heap_alloc_new w5 _)]
    simpa using hj
  have hsrc2 : Src Tryz.prog 17 22 (.slice (some ⟨w5.heap.size, 0, none⟩) 1 1) 1 cs.toList (w5.alloc (.cells cs 88)) :=
    hs17.src Tryz.underlying22 1 1 (by rw [hcs]; rfl) (fun u hu => by
      have := cells_node n ea fa n.data.length n.acl.length ec fc
      rw [← hcs, ← Array.all_toList] at this
      exact List.all_eq_true.1 this u hu)
  have hnew5 : NdS (fun k => w4.heap.size ≤ k ∧ k < w5.heap.size) w5 (.agg cs) n := ⟨ea, ec, fa, fc, by rw [hcs], hD5, hA5⟩
  have HNEW5 := Lib.hid hnew5
  have HE5 := Lib.hid hE5
  have HCS := Lib.hid hcs
  rw [hcs] at hown5 hsrc2
  unfold ndC at hown5 hsrc2 ⊢
  clear C2 hnew5 hE5 hcs hs17 hD5 hA5
  go_wp2_with (at_builtin; refine wpList_append_src _ rfl (.tmp 22) (.tmp 25) 22 22 rfl W2.heap.size 88 i0 (.agg zeroNd) 17 168 Tryz.underlying22 hi hz0 hz1' hz2' rfl (by decide) _ i _ rfl hown5 _ 1 _ rfl hsrc2 ?d1 ?d2 ?d3 ?_)
  case d1 => unfold maxLen at *; omega
  case d2 => omega
  case d3 => simp; omega
  intro v2 w7 hown7 hg2 _ ho2
  have hz7 := hg2.size
  simp only [World.size_alloc] at hz7
  have hW6b : ∀ k, k < w5.heap.size → v1.ownBlock ≠ some k → w7.heap[k]? = w5.heap[k]? := fun k hk hn => (hg2.block k (by simp; omega) (fun e => hn e.symm)).trans (heap_alloc_old w5 _ hk)
  have hE27 : Ext W2 w7 := ⟨hg2.os.trans (HE5.out.os.trans HE24.out.os), hg2.tape.trans (HE5.out.tape.trans HE24.out.tape), hg2.output.trans (HE5.out.output.trans HE24.out.output), by omega, fun k hk =>
    (hW6b k (by omega) (fun e => by have := HV1.out k e; omega)).trans ((HE5.out.block k (by omega)).trans (HE24.out.block k hk))⟩
  have hnew7 : NdS (fun k => w4.heap.size ≤ k ∧ k < w5.heap.size) w7 (.agg cs) n := NdS.imp HNEW5.out (fun _ h => h) fun bl o u hb hu => (World.cell?_of_block (hW6b bl hb.2 (fun e => by have := HV1.out bl e; omega))).trans hu
  have hv2 : ∀ k, v2.ownBlock = some k → W2.heap.size ≤ k ∧ (k < w4.heap.size ∨ w5.heap.size ≤ k) := fun k hk => by
    rcases ho2 with h | h
    · rw [h] at hk; have := HV1.out k hk; exact ⟨this.1, .inl this.2⟩
    · rw [h] at hk; have h9 : (w5.heap.size + 1) = k := by have := Option.some.inj hk; simpa using this
      omega
  have hrows7 : RowsOf S w7 a vs L := HRW3.out.imp (fun _ h => h) (fun k hk => by
    have := (hS0 k hk).1
    rw [hE27.block k (by omega), HE3.out.block k (by omega)])
  have hsrc3 := HSF.out w7 _ hrows7 (fun k hk => by have := (hS0 k hk).1; omega)
  have hc7 : w7.cell? ⟨b, 0, none⟩ = some (.slice a L.length cap) := cell_of_row _ _ _ _ _ _ ((hE27.block b (by omega)).trans HB2.out)
  rw [show [Value.string n.path, .slice ea n.data.length ec, .slice fa n.acl.length fc, .int .i64 n.owner, .int .i64 n.czxid, .int .i64 n.mzxid, .int .i64 n.pzxid, .int .i64 n.azxid, .int .i64 n.qzxid, .int .i64 n.ctime, .int .i64 n.mtime, .int .i32 n.version, .int .i32 n.creates, .int .i32 n.aversion, .bool n.has, .int .i64 n.count, .int .i64 n.bytes] = cs.toList from by rw [HCS.out]; rfl] at hown7
  have HO7 := Lib.hid hown7
  have HE27 := Lib.hid hE27
  have HNEW7 := Lib.hid hnew7
  have HV2 := Lib.hid hv2
  have HR7 := Lib.hid hrows7
  clear hown5 hsrc2 hg2 ho2 hW6b hE27 hnew7 hv2 hrows7 HNEW5 hown7
  have hown8 := HO7.out
  go_wp2_with (at_builtin; refine wpList_append_src _ rfl (.tmp 28) (.tmp 34) 22 22 rfl W2.heap.size 88 i0 (.agg zeroNd) 17 168 Tryz.underlying22 hi hz0 hz1' hz2' rfl (by decide) _ (i + 1) _ rfl hown8 _ (L.length - i) _ rfl hsrc3 ?e1 ?e2 ?e3 ?_)
  case e1 => unfold maxLen at *; omega
  case e2 => omega
  case e3 => omega
  intro v4 w8 hown9 hg3 _ _
  have hz8 := hg3.size
  have hb8 : w8.heap[b]? = some (.cells #[.slice a L.length cap] 106 (0, 0)) := (hg3.block b (by omega) (fun e => by have := HV2.out b e.symm; omega)).trans ((HE27.out.block b (by omega)).trans HB2.out)
  have hk8 : ∀ k, k < W2.heap.size → w8.heap[k]? = W2.heap[k]? := fun k hk => (hg3.block k (by omega) (fun e => by have := HV2.out k e.symm; omega)).trans (HE27.out.block k hk)
  have hnew8 : NdS (fun k => S k ∨ (w.heap.size ≤ k ∧ k < w8.heap.size)) w8 (.agg cs) n := NdS.imp HNEW7.out (fun k hk => .inr ⟨by omega, by omega⟩) fun bl o u hb hu => (World.cell?_of_block (hg3.block bl (by omega) (fun e => by have := HV2.out bl e.symm; omega))).trans hu
  have hold8 : RowsOf (fun k => S k ∨ (w.heap.size ≤ k ∧ k < w8.heap.size)) w8 a vs L := HR7.out.imp (fun k hk => .inl hk) fun k hk => by
    have := (hS0 k hk).1
    rw [hk8 k (by omega), HE27.out.block k (by omega)]
  have heach : EachN (fun k => S k ∨ (w.heap.size ≤ k ∧ k < w8.heap.size)) w8 (vs.take i ++ ([cs] ++ vs.drop i)) (L.take i ++ ([n] ++ L.drop i)) :=
    EachN.append (EachN.take ⟨hold8.len, hold8.each⟩ i) ((EachN.one hnew8).append (EachN.drop ⟨hold8.len, hold8.each⟩ i))
  have hfl : (vs.take i).flatMap Array.toList ++ (cs.toList ++ (vs.drop i).flatMap Array.toList) = (vs.take i ++ ([cs] ++ vs.drop i)).flatMap Array.toList := by
    simp [List.flatMap_append]
  rw [hfl] at hown9
  have hln : i + 1 + (L.length - i) = (L.take i ++ ([n] ++ L.drop i)).length := by simp; omega
  obtain ⟨a9, c9, rfl, hc9, hm9, hr9, hp9⟩ := RowsOf.of_own hown9 hln heach.1 (fun k h1 h2 => .inr ⟨by omega, h2⟩) heach.2
  have HK8 := Lib.hid hk8
  have HB8 := Lib.hid hb8
  have HR9 := Lib.hid hr9
  have HP9 := Lib.hid hp9
  have HG3 := Lib.hid hg3
  clear hk8 hb8 hr9 hp9 hown9 hown8 heach hfl hnew8 hold8 hsrc3 hg3 hsl1 hsl2
  have hfin : RTree (fun k => S k ∨ (w.heap.size ≤ k ∧ k < (w8.setRow b #[.slice a9 (i + 1 + (L.length - i)) c9]).heap.size)) (w8.setRow b #[.slice a9 (i + 1 + (L.length - i)) c9]) b (L.take i ++ n :: L.drop i) ∧ Chg (· = b) w (w8.setRow b #[.slice a9 (i + 1 + (L.length - i)) c9]) := by
    have hb9 := setRow_heap w8 b _ #[.slice a9 (i + 1 + (L.length - i)) c9] _ _ HB8.out
    have hs9 : (w8.setRow b #[Value.slice a9 (i + 1 + (L.length - i)) c9]).heap.size = w8.heap.size := by simp [World.setRow]
    rw [hln] at hb9 hc9
    have hb' : ∀ k, (S k ∨ (w.heap.size ≤ k ∧ k < w8.heap.size)) → k < w8.heap.size ∧ k ≠ b := fun k hk => by
      rcases hk with hk | hk
      · have := hS0 k hk; exact ⟨by omega, this.2⟩
      · exact ⟨hk.2, by omega⟩
    refine ⟨⟨a9, c9, _, by rw [hln]; exact hb9, hc9, hm9, fun k hk => by rw [hs9] at hk ⊢; exact hb' k hk, HR9.out.imp (fun k hk => by rw [hs9]; exact hk) (fun k hk => setRow_other _ _ _ _ (hb' k hk).2), HP9.out⟩, ?_⟩
    have hc8 : Chg (· = b) w w8 := ⟨HG3.out.os.trans (HE27.out.os.trans (HE2.out.os.trans HE1.out.os)), HG3.out.tape.trans (HE27.out.tape.trans (HE2.out.tape.trans HE1.out.tape)), HG3.out.output.trans (HE27.out.output.trans (HE2.out.output.trans HE1.out.output)), by omega, fun k hk _ =>
      (HK8.out k (by omega)).trans ((HE2.out.block k (by omega)).trans (HE1.out.block k hk))⟩
    exact hc8.trans (Chg.set (S := (· = b)) b w8 _ rfl) fun _ _ h => h
  have HFIN := Lib.hid hfin
  clear hfin
  go_wp2_with (refine wpList_store_one rfl 22 (.tmp 37) (.tmp 35) rfl b _ rfl rfl rfl 106 _ HB8.out infoSl ?_)
  exact bodyPost_end (results_none rfl _ _ _) rfl ⟨rfl, by rw [show i + (L.length - i + 1) = i + 1 + (L.length - i) by omega]; exact HFIN.out⟩
theorem rinsert_any (w : World) (b : Nat) (L : List Nd) (n : Nd) (da aa : Option Addr) (dc ac : Nat) (hR : RT w b L) (hfL : ∀ m ∈ L, Fit m) (hf : Fit n) (hD : Cells w.heap.size w da (n.data.map u8v)) (hA : Cells w.heap.size w aa (acCs n.acl)) (hl : (L.length + 1) * 168 ≤ 140737488355328) :
    Calls Tryz.prog 42 #[.pointer (some ⟨b, 0, none⟩), .agg (ndC n (.slice da n.data.length dc) (.slice aa n.acl.length ac))] w fun e w' => e = .returned (.tuple #[]) ∧ RT w' b (L.take (rfind L n.path).1 ++ n :: L.drop (rfind L n.path).1) ∧ Chg (· = b) w w' :=
  (rinsert_s _ w b L n da aa dc ac hR hfL hf hD hA hl).mono fun _ _ h => ⟨h.1, h.2.1.rt, h.2.2⟩
end Go.Proofs.YtclekhjnnljjlaaGreatDoor
namespace Go.Proofs.YtclekhjnnljjlaaGreatDoor
open Go.RowKit Go.Sort
set_option maxHeartbeats 2000000
set_option maxRecDepth 100000

theorem wpList_append_nd {ops : Array Oper} {rest : List Oper} {o : Oper} {a : Act} {Q : Exit → Act → World → Prop} {W4 W5 : World} (hgd : o.guard = none) (s x : Operand)
    (ho : o.op = .call { callee := .builtin .append, args := #[s, x], argTypes := #[22, 22] })
    (base : Nat) (L : List Nd) (ov : Value) (hO : OwnN base L ov W4) (hE : Ext W4 W5) (hb : base ≤ W4.heap.size) (n : Nd) (cs : Array Value) (hN : NdS (fun k => W4.heap.size ≤ k ∧ k < W5.heap.size) W5 (.agg cs) n) (hl : (L.length + 1) * 168 ≤ 140737488355328)
    (hs : a.eval s = ov) (hx : a.eval x = .slice (some ⟨W5.heap.size, 0, none⟩) 1 1)
    (hK : ∀ v' W6, OwnN base (L ++ [n]) v' W6 → (∀ w0, Ext w0 W5 → w0.heap.size ≤ base → Ext w0 W6) → wpList Tryz.prog ops Q rest (a.put o.dst v') W6) : wpList Tryz.prog ops Q (o :: rest) a (W5.alloc (.cells cs 88)) := by
  obtain ⟨qa, qc, ra, rc, hcs, hQ1, hQ2⟩ := hN
  cases hcs
  obtain ⟨ws, hown4, heach4⟩ := hO
  have hz5 := hE.size
  have hlt4 : ∀ g, ov.ownBlock = some g → base ≤ g ∧ g < W4.heap.size := fun g hg => hown4.lt g hg
  have hown5 := hown4.kept (grown_of_ext hE none) (Classical.em _)
  have heach5 : EachN (NewN base ov W5) W5 ws L := heach4.imp (fun b hb => ⟨hb.1, Nat.lt_of_lt_of_le hb.2.1 hE.size, hb.2.2⟩) fun b o u _ hu => cell_ext hE b o u hu
  have hnew5 : NdS (NewN base ov W5) W5 (.agg (ndC n (.slice qa n.data.length qc) (.slice ra n.acl.length rc))) n := NdS.imp ⟨qa, qc, ra, rc, rfl, hQ1, hQ2⟩ (fun k hk => ⟨by omega, hk.2, fun e => by have := (hlt4 k e).2; omega⟩) fun _ _ _ _ h => h
  have hs17 : Cells (W5.alloc (.cells (ndC n (.slice qa n.data.length qc) (.slice ra n.acl.length rc)) 88)).heap.size (W5.alloc (.cells (ndC n (.slice qa n.data.length qc) (.slice ra n.acl.length rc)) 88)) (some ⟨W5.heap.size, 0, none⟩) (ndC n (.slice qa n.data.length qc) (.slice ra n.acl.length rc)).toList := fun j u hj => by
    refine ⟨_, 0, rfl, by simp, ?_⟩
    rw [Nat.zero_add, cell_of_row _ _ _ _ _ _ (heap_alloc_new W5 _)]
    simpa using hj
  have hsrc : Src Tryz.prog 17 22 (.slice (some ⟨W5.heap.size, 0, none⟩) 1 1) 1 (ndC n (.slice qa n.data.length qc) (.slice ra n.acl.length rc)).toList (W5.alloc (.cells (ndC n (.slice qa n.data.length qc) (.slice ra n.acl.length rc)) 88)) :=
    hs17.src Tryz.underlying22 1 1 (by simp [ndC]) (fun u hu => by
      have := cells_node n qa ra n.data.length n.acl.length qc rc
      rw [← Array.all_toList] at this
      exact List.all_eq_true.1 this u hu)
  obtain ⟨i0, hi, hz0, hz1', hz2⟩ := info_parts infoNd
  have hownA := hown5.alloc (.cells (ndC n (.slice qa n.data.length qc) (.slice ra n.acl.length rc)) 88)
  refine wpList_append_src _ hgd s x 22 22 ho base 88 i0 (.agg zeroNd) 17 168 Tryz.underlying22 hi hz0 hz1' hz2 rfl (by decide) ov L.length _ hs hownA _ 1 _ hx hsrc (by unfold maxLen; omega) hl (by simp; omega) ?_
  intro v' w6 hown6 hg6 _ ho6
  exact hK v' w6 (OwnN.step heach5 hnew5 hown6 hg6 (by simpa using ho6)) fun w0 hE0 hb0 => OwnN.keep hE0 hb0 hown5 hg6
end Go.Proofs.YtclekhjnnljjlaaGreatDoor
namespace Go.Proofs.YtclekhjnnljjlaaGreatDoor
open Go.RowKit Go.Maps
open Go.ChangeMaps (notKey putKey delKey)
open Go.WideElems (Fit rd rg pl rd_key rd_val rg_of)

section lists
variable {α β : Type}
abbrev IKey := Int

def iget (m : List (IKey × α)) (k : IKey) : Option α := (m.find? fun x => x.1 == k).map (·.2)
def iins (x : IKey × α) : List (IKey × α) → List (IKey × α)
  | [] => [x]
  | y :: r => if decide (x.1 < y.1) then x :: y :: r else y :: iins x r
def idel (m : List (IKey × α)) (k : IKey) : List (IKey × α) := m.filter fun x => !(x.1 == k)
def iput (m : List (IKey × α)) (k : IKey) (v : α) : List (IKey × α) := iins (k, v) (idel m k)
def ISorted (m : List (IKey × α)) : Prop := m.Pairwise fun x y => x.1 < y.1

theorem ISorted.keys_ne {m : List (IKey × α)} (h : ISorted m) : m.Pairwise fun x y => x.1 ≠ y.1 :=
  h.imp fun {a b} hb e => by rw [e] at hb; exact Int.lt_irrefl _ hb

theorem iget_some_mem {m : List (IKey × α)} {k : IKey} {v : α} (h : iget m k = some v) : (k, v) ∈ m := by
  unfold iget at h
  obtain ⟨x, hx, rfl⟩ := Option.map_eq_some_iff.1 h
  have h1 := List.find?_some hx
  have h2 := List.mem_of_find?_eq_some hx
  have : x.1 = k := by simpa using h1
  rw [← this]; exact h2
theorem iget_none {m : List (IKey × α)} {k : IKey} (h : iget m k = none) : ∀ x ∈ m, x.1 ≠ k := by
  unfold iget at h
  intro x hx e
  have := List.find?_eq_none.1 (Option.map_eq_none_iff.1 h) x hx
  simp [e] at this
theorem iget_of_mem {m : List (IKey × α)} (h : ISorted m) {k : IKey} {v : α} (hm : (k, v) ∈ m) : iget m k = some v := by
  cases hg : iget m k with
  | none => exact absurd rfl (iget_none hg _ hm)
  | some u =>
    have hu := iget_some_mem hg
    obtain ⟨i, hi, ei⟩ := List.getElem_of_mem hm
    obtain ⟨j, hj, ej⟩ := List.getElem_of_mem hu
    have hp := List.pairwise_iff_getElem.1 h.keys_ne
    have : i = j := by
      rcases Nat.lt_trichotomy i j with hlt | he | hlt
      · exact absurd (by rw [ei, ej]) (hp i j hi hj hlt)
      · exact he
      · exact absurd (by rw [ei, ej]) (hp j i hj hi hlt)
    subst this
    rw [ei] at ej
    cases ej; rfl
end lists

/-- What a map reads as: its keys in order, each with its value. -/
def kiD (m : List (IKey × Value)) : DataW Value := .map (m.map fun x => (.int .i64 x.1, .held x.2))

theorem same_ki (a b : Int) : (Lit.int .i64 a).sameKey (.int .i64 b) = (a == b) := by
  simp only [Lit.sameKey, true_and]
  rfl
theorem insert_ki (x : IKey × Value) : ∀ m : List (IKey × Value), DataW.insert (Lit.int .i64 x.1, DataW.held x.2) (m.map fun x => (Lit.int .i64 x.1, DataW.held x.2)) = (iins x m).map fun x => (Lit.int .i64 x.1, DataW.held x.2)
  | [] => rfl
  | y :: r => by
    by_cases h : x.1 < y.1 <;> simp [DataW.insert, iins, Lit.before, h, insert_ki x r]
theorem filter_ki (k : IKey) (m : List (IKey × Value)) : (m.map fun x => (Lit.int .i64 x.1, DataW.held x.2)).filter (fun p => !p.1.sameKey (.int .i64 k)) = (idel m k).map fun x => (Lit.int .i64 x.1, DataW.held x.2) := by
  unfold idel; rw [List.filter_map]; congr 1; refine List.filter_congr fun x _ => ?_; simp only [Function.comp, same_ki]
theorem kiD_put (m : List (IKey × Value)) (k : IKey) (v : Value) : (kiD m).put (.int .i64 k) (.held v) = kiD (iput m k v) := by
  simp only [kiD, DataW.put, filter_ki, iput]
  rw [insert_ki (k, v)]
theorem kiD_del (m : List (IKey × Value)) (k : IKey) : (kiD m).del (.int .i64 k) = kiD (idel m k) := by
  simp only [kiD, DataW.del, filter_ki]
theorem find_ki (m : List (IKey × Value)) (k : IKey) : (m.map fun x => (Lit.int .i64 x.1, DataW.held x.2)).find? (fun p => p.1.sameKey (.int .i64 k)) = (m.find? fun x => x.1 == k).map fun x => (Lit.int .i64 x.1, DataW.held x.2) := by
  rw [List.find?_map]; congr 2; funext x; simp only [Function.comp, same_ki]
theorem kiD_at (m : List (IKey × Value)) (k : IKey) (z : Value) : (kiD m).atKey (.int .i64 k) (.held z) = .held ((iget m k).getD z) := by
  simp only [kiD, DataW.atKey, find_ki, iget]
  cases m.find? fun x => x.1 == k <;> rfl
theorem kiD_has (m : List (IKey × Value)) (k : IKey) : Maps.has (kiD m) (.int .i64 k) = (iget m k).isSome := by
  simp only [kiD, Maps.has, iget, List.any_map, Option.isSome_map]
  induction m with
  | nil => rfl
  | cons x r ih =>
    have e : (Lit.int .i64 x.1).sameKey (.int .i64 k) = (x.1 == k) := same_ki x.1 k
    simp only [List.any_cons, Function.comp, List.find?_cons, e] at ih ⊢
    cases x.1 == k
    · simpa using ih
    · rfl
section
variable {P : Program} {kt : TypeId} {w : World} {b : Nat} {m : List (IKey × Value)}

/-- Block b is a map that holds just these keys and values. -/
def IMap (P : Program) (kt : TypeId) (w : World) (b : Nat) (m : List (IKey × Value)) : Prop := w.ownsMap P kt Rv b m.length (kiD m)

theorem IMap.of {n : Nat} (h : w.ownsMap P kt Rv b n (kiD m)) : IMap P kt w b m := by
  obtain ⟨es, clock, hb, F, hs, hD⟩ := h
  refine ⟨es, clock, hb, F, ?_, hD⟩
  simp only [kiD, DataW.map.injEq] at hD
  have := congrArg List.length hD
  rw [length_sorted] at this
  simp at this
  omega
theorem IMap.made (P : Program) (kt : TypeId) (w : World) : IMap P kt (w.alloc (.map #[] 0)) w.heap.size [] := World.ownsMap_made w P kt Rv
theorem IMap.lt (h : IMap P kt w b m) : b < w.heap.size := World.ownsMap.lt h
theorem IMap.keep {w' : World} (h : IMap P kt w b m) (he : w'.heap[b]? = w.heap[b]?) : IMap P kt w' b m := by
  obtain ⟨es, clock, hb, r⟩ := h
  exact ⟨es, clock, he.trans hb, r⟩
theorem IMap.sorted (K : Keyed P kt) (h : IMap P kt w b m) : ISorted m := by
  obtain ⟨es, clock, hb, F, hs, hD⟩ := h
  simp only [kiD, DataW.map.injEq] at hD
  have := Maps.sorted_sorted K.one _ (Maps.fit_keys F) (Maps.fit_apart K F)
  rw [← hD, List.pairwise_map] at this
  exact this.imp fun h => of_decide_eq_true h
theorem keyOf_i (hk : P.underlying kt = some (.int .i64)) {s : Int} (hs : (Lit.int .i64 s).wf = true) : keyOf P kt (.int .i64 s) = some (.int .i64 s) := keyOf_int_mk hk hs
theorem IMap.look {t e : TypeId} (h : IMap P kt w b m) (hk : P.underlying kt = some (.int .i64)) (ht : P.underlying t = some (.map kt e)) {z : Value} (hz : (zeroValue e).run P w = .ok z w) {s : Int} (hs : (Lit.int .i64 s).wf = true) :
    (Instr.lookup t (.map (some b)) (.int .i64 s) false).run P w = .ok ((iget m s).getD z) w := by
  obtain ⟨v, ps, hr, hv⟩ := World.ownsMap.lookup h (int_keyed hk) ht hz (zd := .held z) (zp := []) rfl (keyOf_i hk hs)
  rw [kiD_at] at hv
  simp only [Rv, Option.some.injEq, Prod.mk.injEq, DataW.held.injEq] at hv
  rw [hr, hv.1]
theorem IMap.look_ok {t e : TypeId} (h : IMap P kt w b m) (hk : P.underlying kt = some (.int .i64)) (ht : P.underlying t = some (.map kt e)) {z : Value} (hz : (zeroValue e).run P w = .ok z w) {s : Int} (hs : (Lit.int .i64 s).wf = true) :
    (Instr.lookup t (.map (some b)) (.int .i64 s) true).run P w = .ok (.tuple #[(iget m s).getD z, .bool (iget m s).isSome]) w := by
  obtain ⟨v, ps, hr, hv⟩ := World.ownsMap.look_ok h (int_keyed hk) ht hz (zd := .held z) (zp := []) rfl (keyOf_i hk hs)
  rw [kiD_at] at hv
  simp only [Rv, Option.some.injEq, Prod.mk.injEq, DataW.held.injEq] at hv
  rw [hr, hv.1, kiD_has]
theorem IMap.len {t e : TypeId} (h : IMap P kt w b m) (ht : P.underlying t = some (.map kt e)) (ty : TypeId) : (Builtin.len_ #[t] ty #[.map (some b)]).run P w = .ok (.int .i64 m.length) w := by
  have := World.ownsMap.len h ht ty
  simpa [kiD, Maps.size] using this
theorem IMap.store {t e : TypeId} (h : IMap P kt w b m) (hk : P.underlying kt = some (.int .i64)) (ht : P.underlying t = some (.map kt e)) (hn : m.length < maxLen) {s : Int} (hs : (Lit.int .i64 s).wf = true) (v : Value) :
    ∃ w', (Instr.mapUpdate t (.map (some b)) (.int .i64 s) v).run P w = .ok () w' ∧ IMap P kt w' b (iput m s v) ∧ w.mapTurned w' b := by
  obtain ⟨w', hr, ho, ht'⟩ := World.ownsMap.store h (int_keyed hk) ht hn (keyOf_i hk hs) (val := v) (d := .held v) (ps := []) rfl
  rw [kiD_put] at ho
  exact ⟨w', hr, IMap.of ho, ht'⟩
theorem IMap.drop {t e : TypeId} (h : IMap P kt w b m) (hk : P.underlying kt = some (.int .i64)) (ht : P.underlying t = some (.map kt e)) {s : Int} (hs : (Lit.int .i64 s).wf = true) (ty : TypeId) :
    ∃ w', (Builtin.delete_ #[t, kt] ty #[.map (some b), .int .i64 s]).run P w = .ok (.tuple #[]) w' ∧ IMap P kt w' b (idel m s) ∧ w.mapTurned w' b := by
  obtain ⟨w', hr, ho, ht'⟩ := World.ownsMap.drop h (int_keyed hk) ht (keyOf_i hk hs) ty
  rw [kiD_del] at ho
  exact ⟨w', hr, IMap.of ho, ht'⟩
end
end Go.Proofs.YtclekhjnnljjlaaGreatDoor
namespace Go.Proofs.YtclekhjnnljjlaaGreatDoor

/-- A session: its id, its timeout, its identities (scheme, id). -/
structure Se where
  id : Int
  tm : Int
  ids : List (ByteArray × ByteArray)

instance : DecidableEq Se := fun a b =>
  if h : a.id = b.id ∧ a.tm = b.tm ∧ a.ids = b.ids then .isTrue (by obtain ⟨h1, h2, h3⟩ := h; cases a; cases b; simp_all)
  else .isFalse (fun e => h (by subst e; exact ⟨rfl, rfl, rfl⟩))

/-- May the identity at a place stand behind those ahead of it? -/
def idAt (l : List (ByteArray × ByteArray)) (i : Nat) : Bool :=
  match l[i]? with
  | some x => identity x.1 x.2 && !(l.take i).any fun y => decide (y = x)
  | none => true
def idsTo (l : List (ByteArray × ByteArray)) : Nat → Bool
  | 0 => true
  | n + 1 => idsTo l n && idAt l n
def idsOk (l : List (ByteArray × ByteArray)) : Bool := idsTo l l.length
theorem idsTo_false {l : List (ByteArray × ByteArray)} : ∀ {n i : Nat}, i < n → idAt l i = false → idsTo l n = false
  | n + 1, i, h, e => by
    unfold idsTo
    by_cases hi : i = n
    · subst hi; rw [e, Bool.and_false]
    · rw [idsTo_false (by omega) e, Bool.false_and]
def rightS (s : Se) : Bool := decide (0 < s.id) && decide (4 ≤ s.tm ∧ s.tm ≤ 1048576) && decide (s.ids.length ≤ 16) && idsOk s.ids
def sameS (a b : Se) : Bool := decide (a.id = b.id) && decide (a.tm = b.tm) && decide (a.ids = b.ids)
theorem sameS_iff {a b : Se} : sameS a b = true ↔ a = b := by
  unfold sameS
  simp only [Bool.and_eq_true, decide_eq_true_eq]
  constructor
  · rintro ⟨⟨h1, h2⟩, h3⟩; cases a; cases b; simp_all
  · rintro rfl; exact ⟨⟨rfl, rfl⟩, rfl⟩

/-- A table: rising by id. -/
def TSorted (l : List Se) : Prop := l.Pairwise fun a b => a.id < b.id
def tget (l : List Se) (id : Int) : Option Se := l.find? fun s => s.id == id
def tins (s : Se) : List Se → List Se
  | [] => [s]
  | y :: r => if s.id < y.id then s :: y :: r else y :: tins s r
def topenE (l : List Se) (s : Se) : Int := if rightS s = false then 1 else if (tget l s.id).isSome then 80 else 0
def topenL (l : List Se) (s : Se) : List Se := if topenE l s = 0 then tins s l else l
theorem mem_tins {x s : Se} : ∀ {l : List Se}, x ∈ tins s l ↔ x = s ∨ x ∈ l
  | [] => by simp [tins]
  | y :: r => by
    unfold tins
    split
    · simp
    · simp only [List.mem_cons, mem_tins (l := r)]
      constructor
      · rintro (h | h | h) <;> simp [h]
      · rintro (h | h | h) <;> simp [h]
theorem tins_length (s : Se) : ∀ l : List Se, (tins s l).length = l.length + 1
  | [] => rfl
  | y :: r => by unfold tins; split <;> simp [tins_length s r]
theorem tget_none {l : List Se} {id : Int} : (tget l id).isSome = false ↔ ∀ s ∈ l, s.id ≠ id := by
  unfold tget
  rw [Option.isSome_eq_false_iff, Option.isNone_iff_eq_none, List.find?_eq_none]
  simp
theorem tins_sorted {s : Se} : ∀ {l : List Se}, TSorted l → (∀ y ∈ l, y.id ≠ s.id) → TSorted (tins s l)
  | [], _, _ => by simp [tins, TSorted]
  | y :: r, h, hne => by
    obtain ⟨h1, h2⟩ := List.pairwise_cons.1 h
    unfold tins
    split
    · rename_i hb
      refine List.pairwise_cons.2 ⟨fun z hz => ?_, h⟩
      rcases List.mem_cons.1 hz with rfl | hz
      · exact hb
      · exact Int.lt_trans hb (h1 z hz)
    · rename_i hb
      have := hne y (by simp)
      refine List.pairwise_cons.2 ⟨fun z hz => ?_, tins_sorted h2 fun z hz => hne z (by simp [hz])⟩
      rcases mem_tins.1 hz with rfl | hz
      · omega
      · exact h1 z hz
theorem topen_sorted {l : List Se} (h : TSorted l) (s : Se) : TSorted (topenL l s) := by
  unfold topenL
  split
  · rename_i he
    refine tins_sorted h ?_
    unfold topenE at he
    split at he
    · omega
    · split at he
      · omega
      · rename_i h2
        exact tget_none.1 (by simpa using h2)
  · exact h
/-- All that is in a table is right, and no longer than it is. -/
def TRight (l : List Se) : Prop := ∀ s ∈ l, rightS s = true
theorem topen_right {l : List Se} (h : TRight l) (s : Se) : TRight (topenL l s) := by
  unfold topenL
  split
  · rename_i he
    intro x hx
    rcases mem_tins.1 hx with rfl | hx
    · unfold topenE at he
      split at he
      · omega
      · rename_i h1; simpa using h1
    · exact h x hx
  · exact h
/-- The list's side: the place of a session. -/
def tat (l : List Se) (id : Int) : Nat := (l.takeWhile fun s => decide (s.id < id)).length
theorem tat_le (l : List Se) (id : Int) : tat l id ≤ l.length := (List.takeWhile_sublist _).length_le
theorem tins_at {s : Se} : ∀ {l : List Se}, TSorted l → (∀ y ∈ l, y.id ≠ s.id) → tins s l = l.take (tat l s.id) ++ s :: l.drop (tat l s.id)
  | [], _, _ => rfl
  | y :: r, h, hne => by
    obtain ⟨h1, h2⟩ := List.pairwise_cons.1 h
    have hy := hne y (by simp)
    unfold tins tat
    by_cases hb : s.id < y.id
    · rw [if_pos hb, List.takeWhile_cons, if_neg (by simp; omega)]
      rfl
    · rw [if_neg hb, List.takeWhile_cons, if_pos (by simp; omega)]
      simp only [List.length_cons, List.take_succ_cons, List.drop_succ_cons, List.cons_append]
      congr 1
      exact tins_at h2 fun z hz => hne z (by simp [hz])
theorem tget_at {l : List Se} (h : TSorted l) (id : Int) : tget l id = (l[tat l id]?).bind fun s => if s.id = id then some s else none := by
  induction l with
  | nil => rfl
  | cons y r ih =>
    obtain ⟨h1, h2⟩ := List.pairwise_cons.1 h
    unfold tget tat
    by_cases hb : y.id < id
    · rw [List.takeWhile_cons, if_pos (by simpa using hb), List.find?_cons]
      have : (y.id == id) = false := by simp; omega
      rw [this]
      simpa [tget, tat] using ih h2
    · rw [List.takeWhile_cons, if_neg (by simpa using hb), List.find?_cons]
      by_cases e : y.id = id
      · simp [e]
      · have : (y.id == id) = false := by simpa using e
        rw [this]
        simp only [List.length_nil, List.getElem?_cons_zero, Option.bind_some, if_neg e]
        rw [List.find?_eq_none]
        intro z hz
        have := h1 z hz
        simp
        omega

/-! ### The program's side: a map -/
section
variable {α : Type} (f : Se → α)
def kvS (s : Se) : IKey × α := (s.id, f s)
theorem iins_tins (s : Se) : ∀ l : List Se, iins (kvS f s) (l.map (kvS f)) = (tins s l).map (kvS f)
  | [] => rfl
  | y :: r => by
    have ih := iins_tins s r
    simp only [List.map_cons, iins, tins]
    by_cases h : s.id < y.id
    · have : decide ((kvS f s).1 < (kvS f y).1) = true := decide_eq_true h
      rw [if_pos this, if_pos h]; rfl
    · have : ¬ decide ((kvS f s).1 < (kvS f y).1) = true := fun e => h (of_decide_eq_true e)
      rw [if_neg this, if_neg h, ih]; rfl
theorem iget_tget (l : List Se) (id : Int) : iget (l.map (kvS f)) id = (tget l id).map f := by
  unfold iget tget
  rw [List.find?_map, Option.map_map]
  rfl
theorem iput_tins {l : List Se} {s : Se} (h : ∀ y ∈ l, y.id ≠ s.id) : iput (l.map (kvS f)) s.id (f s) = (tins s l).map (kvS f) := by
  have : idel (l.map (kvS f)) s.id = l.map (kvS f) := by
    unfold idel
    rw [List.filter_eq_self]
    intro x hx
    obtain ⟨y, hy, rfl⟩ := List.mem_map.1 hx
    have := h y hy
    simpa [kvS] using this
  rw [iput, this]
  exact iins_tins f s l
end
end Go.Proofs.YtclekhjnnljjlaaGreatDoor
namespace Go.Proofs.YtclekhjnnljjlaaGreatDoor
open Go.RowKit
set_option maxHeartbeats 400000
set_option maxRecDepth 100000

def idC (x : ByteArray × ByteArray) : List Value := [.string x.1, .string x.2]
def idCs (l : List (ByteArray × ByteArray)) : List Value := l.flatMap idC
theorem idCs_length (l : List (ByteArray × ByteArray)) : (idCs l).length = l.length * 2 := by
  induction l with
  | nil => rfl
  | cons a l ih => simp only [idCs, List.flatMap_cons, List.length_append, List.length_cons] at *; rw [ih]; simp [idC]; omega
theorem one_id (xs : List (ByteArray × ByteArray)) : ∀ u ∈ idCs xs, u.oneCell' = true := fun u hu => by
  obtain ⟨x, _, h⟩ := List.mem_flatMap.1 hu
  simp only [idC, List.mem_cons, List.mem_nil_iff, or_false] at h
  rcases h with rfl | rfl <;> rfl
theorem idCs_get {l : List (ByteArray × ByteArray)} : ∀ {i : Nat} {x : ByteArray × ByteArray}, l[i]? = some x → (idCs l)[i * 2]? = some (.string x.1) ∧ (idCs l)[i * 2 + 1]? = some (.string x.2) := by
  induction l with
  | nil => intro i x h; simp at h
  | cons y t ih =>
    intro i x h
    cases i with
    | zero => simp only [List.getElem?_cons_zero, Option.some.injEq] at h; subst h; exact ⟨rfl, rfl⟩
    | succ i =>
      have := ih (i := i) (x := x) (by simpa using h)
      have e : idCs (y :: t) = .string y.1 :: .string y.2 :: idCs t := rfl
      rw [e, show (i + 1) * 2 = i * 2 + 1 + 1 by omega]
      exact this
theorem infoId : (Tryz.prog.info? 139).map (fun i => (i.zero, i.size, i.bytes)) = some (some (.agg #[.string ⟨#[]⟩, .string ⟨#[]⟩]), 2, 32) := by kernel_rfl

/-- A session's cells. -/
def seC (s : Se) (v : Value) : Array Value := #[.int .i64 s.id, .int .i32 s.tm, v]
/-- A session's value, its identities' cells in blocks of a set. -/
def SeS (S : Nat → Prop) (w : World) (v : Value) (s : Se) : Prop := ∃ a c, v = .agg (seC s (.slice a s.ids.length c)) ∧ s.ids.length ≤ c ∧ CellsS S w a (idCs s.ids)
theorem SeS.imp {S S' : Nat → Prop} {w w' : World} {v : Value} {s : Se} (h : SeS S w v s) (hS : ∀ b, S b → S' b) (hw : ∀ (b o : Nat) u, S b → w.cell? ⟨b, o, none⟩ = some u → w'.cell? ⟨b, o, none⟩ = some u) : SeS S' w' v s := by
  obtain ⟨a, c, rfl, h0, h1⟩ := h
  exact ⟨a, c, rfl, h0, h1.imp hS hw⟩
theorem infoSe : (Tryz.prog.info? 62).map (fun i => (i.zero, i.size, i.bytes)) = some (some (.agg #[.int .i64 0, .int .i32 0, .slice none 0 0]), 3, 40) := by kernel_rfl
/-- What may stand in a session that is handed in. -/
structure FitS (s : Se) : Prop where
  id : (Lit.int .i64 s.id).wf = true
  tm : (Lit.int .i32 s.tm).wf = true
  ids : s.ids.length * 32 ≤ 140737488355328
  txt : ∀ x ∈ s.ids, x.1.size ≤ 9223372036854775800 ∧ x.2.size ≤ 9223372036854775800

theorem iclone_any (a : Option Addr) (n c : Nat) (xs : List (ByteArray × ByteArray)) (w : World) (hc : Cells w.heap.size w a (idCs xs)) (hn : n = xs.length) (hb : n * 32 ≤ 140737488355328) :
    Calls Tryz.prog 81 #[.slice a n c] w (CloneOut 139 2 a n (idCs xs) w) := by
  subst hn
  cases a with
  | none =>
    have hx := hc.none
    have he := fun w n c => Lib.run_eql_slice_nil (P := Tryz.prog) w 60 139 none n c 0 0 Tryz.underlying60
    have hx' : xs = [] := by cases xs with
      | nil => rfl
      | cons b l => simp [idCs, idC] at hx
    subst hx'
    have fin : CloneOut 139 2 none 0 [] w (.returned (.slice none 0 0)) w := ⟨_, rfl, World.ownsRow_nil _ _ _ _, Below.refl _ _, by simp⟩
    have FIN := Lib.hid fin
    clear fin
    go_enter Tryz.func81, Tryz.ntmps81
    go_wp2
    go_ret
    exact FIN.out
  | some p =>
    have he := fun w n c => Lib.run_eql_slice_nil (P := Tryz.prog) w 60 139 (some p) n c 0 0 Tryz.underlying60
    obtain ⟨i0, hi, hz0, hz1, hz2⟩ := info_parts infoId
    have hsrc : Src Tryz.prog 2 60 (.slice (some p) xs.length c) xs.length (idCs xs) (w.alloc (.cells #[] 139)) := (hc.below ((Below.refl _ w).alloc (Nat.le_refl _) _)).src Tryz.underlying60 _ _ (by simp [idCs_length]) (one_id xs)
    have hown := ownsRow_empty w 139 2
    go_enter Tryz.func81, Tryz.ntmps81
    go_wp2_with (at_builtin; refine wpList_append_src _ rfl _ _ 60 60 rfl w.heap.size 139 i0 (.agg #[.string ⟨#[]⟩, .string ⟨#[]⟩]) 2 32 Tryz.underlying60 hi hz0 hz1 hz2 rfl (by decide) _ 0 _ rfl hown _ _ _ rfl hsrc ?c1 ?c2 ?c3 ?_)
    case c1 => simp only [maxLen]; omega
    case c2 => omega
    case c3 => simp
    intro v' w1 ho hg hnil _
    have hB : Below w.heap.size w w1 := ((Below.refl _ w).alloc (Nat.le_refl _) _).grown hg (by simp) (fun k hk => by simp only [Value.ownBlock, Option.some.injEq] at hk; omega)
    have fin : CloneOut 139 2 (some p) xs.length (idCs xs) w (.returned v') w1 := ⟨_, rfl, ho, hB, ⟨fun h => absurd h hnil, fun h => by cases h⟩⟩
    have FIN := Lib.hid fin
    clear fin hB ho hg hnil hsrc hown
    go_wp2
    go_ret
    exact FIN.out
end Go.Proofs.YtclekhjnnljjlaaGreatDoor
namespace Go.Proofs.YtclekhjnnljjlaaGreatDoor
section lists
variable {α β : Type}
theorem imem_ext : ∀ {a b : List (IKey × α)}, ISorted a → ISorted b → (∀ x, x ∈ a ↔ x ∈ b) → a = b
  | [], [], _, _, _ => rfl
  | [], y :: b, _, _, h => by have := (h y).2 (by simp); simp at this
  | x :: a, [], _, _, h => by have := (h x).1 (by simp); simp at this
  | x :: a, y :: b, ha, hb, h => by
    obtain ⟨a1, a2⟩ := List.pairwise_cons.1 ha
    obtain ⟨b1, b2⟩ := List.pairwise_cons.1 hb
    have hxy : x = y := by
      rcases List.mem_cons.1 ((h x).1 (by simp)) with e | e
      · exact e
      rcases List.mem_cons.1 ((h y).2 (by simp)) with e' | e'
      · exact e'.symm
      exact (Int.lt_irrefl _ (Int.lt_trans (a1 y e') (b1 x e))).elim
    subst hxy
    have irr : ∀ {l : List (IKey × α)}, (∀ z ∈ l, x.1 < z.1) → x ∉ l := fun hl hm => Int.lt_irrefl _ (hl x hm)
    rw [imem_ext a2 b2 (fun z => ?_)]
    constructor
    · intro hz
      rcases List.mem_cons.1 ((h z).1 (by simp [hz])) with e | e
      · subst e; exact absurd hz (irr a1)
      · exact e
    · intro hz
      rcases List.mem_cons.1 ((h z).2 (by simp [hz])) with e | e
      · subst e; exact absurd hz (irr b1)
      · exact e

/-- Two lists with the same keys, whose values stand to one another as R says. -/
inductive RelI (R : α → β → Prop) : List (IKey × α) → List (IKey × β) → Prop
  | nil : RelI R [] []
  | cons {x : IKey × α} {y : IKey × β} {l : List (IKey × α)} {l' : List (IKey × β)} : x.1 = y.1 → R x.2 y.2 → RelI R l l' → RelI R (x :: l) (y :: l')

theorem RelI.imp {R R' : α → β → Prop} {a : List (IKey × α)} {b : List (IKey × β)} (h : RelI R a b) (hr : ∀ x ∈ a, ∀ y, R x.2 y → R' x.2 y) : RelI R' a b := by
  induction h with
  | nil => exact .nil
  | cons h0 h1 _ ih => exact .cons h0 (hr _ (by simp) _ h1) (ih fun x hx => hr x (by simp [hx]))
theorem RelI.length {R : α → β → Prop} {a : List (IKey × α)} {b : List (IKey × β)} (h : RelI R a b) : a.length = b.length := by
  induction h with
  | nil => rfl
  | cons _ _ _ ih => simp [ih]
theorem RelI.idel {R : α → β → Prop} {a : List (IKey × α)} {b : List (IKey × β)} (h : RelI R a b) (k : IKey) : RelI R (idel a k) (idel b k) := by
  induction h with
  | nil => exact .nil
  | @cons x y l l' h0 h1 _ ih =>
    unfold Go.Proofs.YtclekhjnnljjlaaGreatDoor.idel at ih ⊢
    rw [List.filter_cons, List.filter_cons, ← h0]
    split
    · exact .cons h0 h1 ih
    · exact ih
theorem RelI.iins {R : α → β → Prop} {a : List (IKey × α)} {b : List (IKey × β)} (h : RelI R a b) {x : IKey × α} {y : IKey × β} (hk : x.1 = y.1) (hxy : R x.2 y.2) : RelI R (iins x a) (iins y b) := by
  induction h with
  | nil => exact .cons hk hxy .nil
  | @cons u v l l' h0 h1 ht ih =>
    unfold Go.Proofs.YtclekhjnnljjlaaGreatDoor.iins
    rw [← hk, ← h0]
    split
    · exact .cons hk hxy (.cons h0 h1 ht)
    · exact .cons h0 h1 ih
theorem RelI.iput {R : α → β → Prop} {a : List (IKey × α)} {b : List (IKey × β)} (h : RelI R a b) (k : IKey) {x : α} {y : β} (hxy : R x y) : RelI R (iput a k x) (iput b k y) := (h.idel k).iins rfl hxy
theorem RelI.get {R : α → β → Prop} {a : List (IKey × α)} {b : List (IKey × β)} (h : RelI R a b) (k : IKey) : (iget a k = none ∧ iget b k = none) ∨ ∃ x y, iget a k = some x ∧ iget b k = some y ∧ R x y := by
  induction h with
  | nil => exact .inl ⟨rfl, rfl⟩
  | @cons u v l l' h0 h1 _ ih =>
    unfold iget at ih ⊢
    rw [List.find?_cons, List.find?_cons, ← h0]
    cases u.1 == k
    · exact ih
    · exact .inr ⟨_, _, rfl, rfl, h1⟩
theorem RelI.keys {R : α → β → Prop} {a : List (IKey × α)} {b : List (IKey × β)} (h : RelI R a b) : a.map (·.1) = b.map (·.1) := by
  induction h with
  | nil => rfl
  | cons h0 _ _ ih => simp [h0, ih]
end lists
end Go.Proofs.YtclekhjnnljjlaaGreatDoor
namespace Go.Proofs.YtclekhjnnljjlaaGreatDoor
open Go.RowKit
set_option maxHeartbeats 2000000
set_option maxRecDepth 100000

theorem intT : Tryz.prog.underlying 2 = some (.int .i64) := Tryz.underlying2

/-- The map of the sessions, its blocks in S. -/
structure TblAt (S : Nat → Prop) (w : World) (bt bm : Nat) (T : List Se) (N : Nat) : Prop where
  blk : w.heap[bt]? = some (.cells #[.map (some bm)] 114 (0, 0))
  st : S bt
  sm : S bm
  bound : ∀ k, S k → k < w.heap.size
  ex : ∃ m, IMap Tryz.prog 2 w bm m ∧ RelI (fun s v => SeS S w v s) (T.map (kvS id)) m
  sorted : TSorted T
  right : TRight T
  fit : ∀ s ∈ T, FitS s
  len : T.length ≤ N

theorem TblAt.keep {S S' : Nat → Prop} {w w' : World} {bt bm : Nat} {T : List Se} {N N' : Nat} (h : TblAt S w bt bm T N) (hw : ∀ k, S k → w'.heap[k]? = w.heap[k]?) (hS : ∀ k, S k → S' k) (hb : ∀ k, S' k → k < w'.heap.size) (hN : N ≤ N') : TblAt S' w' bt bm T N' := by
  obtain ⟨m, hm, hr⟩ := h.ex
  exact ⟨(hw _ h.st).trans h.blk, hS _ h.st, hS _ h.sm, hb, ⟨m, hm.keep (hw _ h.sm), hr.imp fun _ _ _ hv => hv.imp hS fun b o u hb hu => (World.cell?_of_block (hw b hb)).trans hu⟩, h.sorted, h.right, h.fit, Nat.le_trans h.len hN⟩
theorem TblAt.ext {S : Nat → Prop} {w w' : World} {bt bm : Nat} {T : List Se} {N : Nat} (h : TblAt S w bt bm T N) (he : Ext w w') : TblAt S w' bt bm T N :=
  h.keep (fun k hk => he.block k (h.bound k hk)) (fun _ h => h) (fun k hk => Nat.lt_of_lt_of_le (h.bound k hk) he.size) (Nat.le_refl _)

theorem own_cap {w : World} {base e size n : Nat} {v : Value} {xs : List Value} (h : w.ownsRow base e size v n xs) (a : Option Addr) (c : Nat) (hv : v = .slice a n c) : n ≤ c := by
  rcases h.2 with ⟨h1, h0⟩ | ⟨g, cap, cur, h1, _, _, h2, _⟩
  · rw [hv] at h1; cases h1; omega
  · rw [hv] at h1; cases h1; exact h2
/-- A copy of a session, its identities wholly in new memory. -/
def OwnOut (s : Se) (w : World) (e : Ending) (w' : World) : Prop := ∃ v, e = .returned v ∧ SeS (fun b => w.heap.size ≤ b ∧ b < w'.heap.size) w' v s ∧ Below w.heap.size w w'
theorem sizeSe : (Tryz.prog.info? 62).map (·.size) = some 3 := by kernel_rfl
theorem cells_se (s : Se) (a : Option Addr) (n c : Nat) : (seC s (.slice a n c)).all (·.oneCell') = true := by simp [seC, Value.oneCell']
theorem own_any (s : Se) (a : Option Addr) (c : Nat) (w : World) (hf : FitS s) (hI : Cells w.heap.size w a (idCs s.ids)) :
    Calls Tryz.prog 45 #[.agg (seC s (.slice a s.ids.length c))] w (OwnOut s w) := by
  obtain ⟨W2, hW2⟩ : ∃ W2, W2 = (w.alloc (.cells (seC s (.slice a s.ids.length c)) 62)).alloc (.cells #[.int .i64 0, .int .i32 0, .slice none 0 0] 62) := ⟨_, rfl⟩
  have hs2 : W2.heap.size = w.heap.size + 1 + 1 := by rw [hW2]; simp
  have hb2 : Below w.heap.size w W2 := by rw [hW2]; exact ((Below.refl _ _).alloc (Nat.le_refl _) _).alloc (by simp) _
  have hA2 : W2.heap[w.heap.size]? = some (.cells (seC s (.slice a s.ids.length c)) 62 (0, 0)) := by rw [hW2]; exact heap_alloc2_old w _ _
  have hR2 : W2.heap[w.heap.size + 1]? = some (.cells #[.int .i64 0, .int .i32 0, .slice none 0 0] 62 (0, 0)) := by rw [hW2]; exact heap_alloc2_new w _ _
  have C1 := iclone_any a s.ids.length c s.ids W2 ((hI.below hb2).mono (by omega)) rfl hf.ids
  rw [hW2] at C1
  have C1 := Lib.hid C1
  have HW2 := Lib.hid hW2
  unfold seC at hA2 C1 HW2 ⊢
  clear hW2
  go_enter Tryz.func45, Tryz.ntmps45
  go_wp2_with fail
  refine C1.out.mono ?_
  rintro e w6 ⟨v1, rfl, ho1, hb4, _⟩
  rw [← HW2.out] at hb4 ho1
  have hcp := own_cap ho1
  obtain ⟨va, vc, rfl, hD4⟩ := ownsRow_from ho1
  have hvc := hcp va vc rfl
  have hA6 := (hb4.block w.heap.size (by omega)).trans hA2
  have hR6 := (hb4.block (w.heap.size + 1) (by omega)).trans hR2
  have hb6 := hb2.trans (hb4.mono (by omega))
  have hz4 := hb4.size
  have hcell : w6.cell? ⟨w.heap.size, 2, none⟩ = some (.slice a s.ids.length c) := by rw [cell_of_row w6 w.heap.size 2 _ _ _ hA6]; rfl
  have hfr : w6.frozen? ⟨w.heap.size, 2, none⟩ = false := frozen_of_row w6 w.heap.size 2 _ _ hA6
  have hA7 : (w6.setCell ⟨w.heap.size, 2, none⟩ (.slice va s.ids.length vc)).heap[w.heap.size]? = some (.cells (seC s (.slice va s.ids.length vc)) 62 (0, 0)) := by
    rw [heap_setCell_same w6 w.heap.size 2 _ _ _ hA6]; rfl
  have hR7 := (show (w6.setCell ⟨w.heap.size, 2, none⟩ (.slice va s.ids.length vc)).heap[w.heap.size + 1]? = w6.heap[w.heap.size + 1]? from Below.heap_setCell _ _ _ _ (by simp)).trans hR6
  have HA7 := Lib.hid hA7
  have HR7 := Lib.hid hR7
  have HD4 := Lib.hid hD4
  have HZ := Lib.hid hz4
  have HVC := Lib.hid hvc
  have hnb : w.heap.size < w6.heap.size := by omega
  have hnb5 : w.heap.size + 1 < w6.heap.size := by omega
  clear hA7 hR7 hA6 hR6 hD4 ho1 C1 hA2 hR2 hz4 hcp hvc
  go_wp2_with (first | (refine wpList_load_row rfl 62 (.tmp 1) rfl w.heap.size rfl 62 _ (0, 0) _ HA7.out Tryz.underlying62 rfl sizeSe ?_) | (refine wpList_store_row rfl 62 (.tmp 2) (.tmp 7) rfl (w.heap.size + 1) _ rfl rfl 62 _ HR7.out sizeSe rfl (cells_se s va _ vc) ?_))
  obtain ⟨W7, hW7⟩ : ∃ W7, W7 = w6.setCell ⟨w.heap.size, 2, none⟩ (.slice va s.ids.length vc) := ⟨_, rfl⟩
  have hR7 := HR7.out
  rw [← hW7] at hR7 ⊢
  have hs7 : W7.heap.size = w6.heap.size := by rw [hW7]; simp [World.setCell]
  have hb7 : Below w.heap.size w W7 := by rw [hW7]; exact hb6.setCell (p := ⟨w.heap.size, 2, none⟩) (Nat.le_refl _) _
  have ho7 : ∀ b, w.heap.size + 1 + 1 ≤ b → W7.heap[b]? = w6.heap[b]? := fun b hb => by rw [hW7]; exact Below.heap_setCell _ _ _ _ (by simp; omega)
  obtain ⟨cs, hcs⟩ : ∃ cs, cs = seC s (.slice va s.ids.length vc) := ⟨_, rfl⟩
  rw [← hcs]
  have hR8 := setRow_heap W7 (w.heap.size + 1) _ cs 62 (0, 0) hR7
  have hs8 : (W7.setRow (w.heap.size + 1) cs).heap.size = W7.heap.size := by simp [World.setRow]
  have hb8 : Below w.heap.size w (W7.setRow (w.heap.size + 1) cs) :=
    hb7.trans ⟨rfl, rfl, rfl, by rw [hs8]; exact Nat.le_refl _, fun k hk => setRow_other _ _ _ _ (by omega)⟩
  have ho8 : ∀ b, w.heap.size + 1 + 1 ≤ b → (W7.setRow (w.heap.size + 1) cs).heap[b]? = w6.heap[b]? := fun b hb => (setRow_other _ _ _ _ (by omega)).trans (ho7 b hb)
  have hz := HZ.out
  have cA : CellsS (fun b => w.heap.size ≤ b ∧ b < (W7.setRow (w.heap.size + 1) cs).heap.size) (W7.setRow (w.heap.size + 1) cs) va (idCs s.ids) := fun j u hj => by
    obtain ⟨b, off, h1, h2, h3, h4⟩ := HD4.out j u hj
    exact ⟨b, off, h1, ⟨by omega, by omega⟩, (World.cell?_of_block (ho8 b (by omega))).trans h4⟩
  have hsz3 : (Tryz.prog.info? 62).map (·.size) = some cs.size := by rw [hcs]; exact sizeSe
  refine bodyPost_ret (v := .agg cs) ?_ rfl ⟨_, rfl, ⟨va, vc, by rw [hcs], HVC.out, cA⟩, hb8⟩
  exact results_cell_row (p := 2) (ty := 62) rfl _ _ (w.heap.size + 1) 62 cs (0, 0) _ rfl hR8 Tryz.underlying62 rfl hsz3
end Go.Proofs.YtclekhjnnljjlaaGreatDoor
