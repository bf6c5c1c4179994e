/- The walks of Count, Get. -/
import Derived.Test.YtfgjbcejpjcpeaaDoorFrom
namespace Go.Proofs.YtfgjbcejpjcpeaaDoor
open Go.RowKit
set_option maxHeartbeats 2000000
set_option maxRecDepth 100000

theorem results_cell_row2 {P : Program} {fn : Func} {p q : Tmp} {ty : TypeId} (h : fn.results = #[.cell p ty, .tmp q]) (tmps : Array Value) (w : World) (g : Nat) (t : TypeId) (cs : Array Value) (fr : Nat × Nat) (d : TypeDesc) (v : Value)
    (hp : tmps.getD p undef = .pointer (some ⟨g, 0, none⟩)) (hq : tmps.getD q undef = v) (hg : w.heap[g]? = some (.cells cs t fr))
    (hu : P.underlying ty = some d) (hd : (match d with | .struct _ | .array _ _ => true | _ => false) = true) (hi : (P.info? ty).map (·.size) = some cs.size) :
    (results fn tmps).run P w = .ok (.tuple #[.agg cs, v]) w := by
  have hp' : tmps[p]?.getD undef = .pointer (some ⟨g, 0, none⟩) := by simpa using hp
  have hq' : tmps[q]?.getD undef = v := by simpa using hq
  simp [results, h, hp', hq', asAddr, run_loadVar_row w g t ty cs fr d hg hu hd hi]

theorem TreeAt.box {S : Nat → Prop} {w : World} {bt bn bk : Nat} (hd : Hd S w bt bn bk) : Box w bt (treeC bn bk) := fun j => cell_of_row _ _ _ _ _ _ hd.blk

theorem tcount_any (S : Nat → Prop) (w : World) (bt : Nat) (M : List (Key × Nd)) (N : Nat) (hT : TreeAt S w bt M N) : Calls Tryd.prog 16 #[.pointer (some ⟨bt, 0, none⟩)] w fun e w' => e = .returned (.int .i64 M.length) ∧ w = w' := by
  obtain ⟨bn, bk, K, hd, hNd, hKd⟩ := hT
  obtain ⟨m, hm, hr⟩ := hNd.ex
  have hx := TreeAt.box hd
  have hlen := fun ty => hm.len (e := 37) Tryd.underlying84 ty
  have HL := Lib.hid hr.length
  unfold Box treeC at hx
  clear hm hr hd hNd hKd
  go_enter Tryd.func16, Tryd.ntmps16
  go_wp2
  go_ret
  exact ⟨by rw [HL.out]; rfl, rfl⟩

def zeroN : Nd := ⟨⟨#[]⟩, [], [], 0, 0, 0, 0, 0, 0, 0, 0, 0, 0, 0, false, 0, 0⟩
theorem zeroN_fit : Fit zeroN := ⟨by simp [zeroN, ByteArray.size], by simp [zeroN], by simp [zeroN], fun x hx => by simp [zeroN] at hx⟩
theorem zeroN_nds (S : Nat → Prop) (w : World) : NdS S w (.agg zeroNd) zeroN := ⟨none, 0, none, 0, rfl, fun j u h => by simp [zeroN] at h, fun j u h => by simp [zeroN, acCs] at h⟩

theorem NodesAt.look' {S : Nat → Prop} {w : World} {bn : Nat} {M : List (Key × Nd)} {N : Nat} (h : NodesAt S w bn M N) (s : ByteArray) (hs : s.size ≤ maxLen) :
    ∃ v, NdS S w v ((mget M s.data.toList).getD zeroN) ∧ (Instr.lookup 84 (.map (some bn)) (.string s) true).run Tryd.prog w = .ok (.tuple #[v, .bool (mget M s.data.toList).isSome]) w ∧
      (Instr.lookup 84 (.map (some bn)) (.string s) false).run Tryd.prog w = .ok v w := by
  obtain ⟨mm, hm, hr⟩ := h.ex
  have q1 := SMap.look_ok (e := 37) hm strT Tryd.underlying84 (z := .agg zeroNd) (by kernel_rfl) hs
  have q2 := SMap.look (e := 37) hm strT Tryd.underlying84 (z := .agg zeroNd) (by kernel_rfl) hs
  rcases hr.get s.data.toList with ⟨h1, h2⟩ | ⟨y, v, h1, h2, h3⟩
  · rw [h2] at q1 q2
    rw [h1]
    exact ⟨.agg zeroNd, zeroN_nds S w, q1, q2⟩
  · rw [h2] at q1 q2
    rw [h1]
    exact ⟨v, h3, q1, q2⟩

theorem MOk.fit {M : List (Key × Nd)} (h : MOk M) (k : Key) : Fit ((mget M k).getD zeroN) := by
  cases hg : mget M k with
  | none => exact zeroN_fit
  | some n => exact (right_fit (h.at hg).2).1

def GetOut (M : List (Key × Nd)) (s : ByteArray) (w : World) (e : Ending) (w' : World) : Prop :=
  ∃ v, e = .returned (.tuple #[v, .bool (mget M s.data.toList).isSome]) ∧ NdS (fun b => w.heap.size ≤ b ∧ b < w'.heap.size) w' v ((mget M s.data.toList).getD zeroN) ∧ Ext w w'

theorem tget_any (S : Nat → Prop) (w : World) (bt : Nat) (M : List (Key × Nd)) (N : Nat) (hT : TreeAt S w bt M N) (s : ByteArray) (hs : s.size ≤ maxLen) : Calls Tryd.prog 39 #[.pointer (some ⟨bt, 0, none⟩), .string s] w (GetOut M s w) := by
  obtain ⟨W1, hW1⟩ : ∃ W1, W1 = w.alloc (.cells zeroNd 37) := ⟨_, rfl⟩
  have hE1 : Ext w W1 := by rw [hW1]; exact Ext.alloc _ _
  have hz1 : W1.heap.size = w.heap.size + 1 := by rw [hW1]; simp
  have hr1 : W1.heap[w.heap.size]? = some (.cells zeroNd 37 (0, 0)) := by rw [hW1]; exact heap_alloc_new w _
  have hT1 := hT.ext hE1
  have hok := hT.ok
  have hbnd := hT.bound
  obtain ⟨bn, bk, K, hd, hNd, hKd⟩ := hT1
  have hx := TreeAt.box hd
  obtain ⟨v, hv, hq, hq2⟩ := hNd.look' s hs
  clear hq2
  have hfit := hok.fit s.data.toList
  generalize hn : (mget M s.data.toList).getD zeroN = n at *
  obtain ⟨da, dc, aa, ac, rfl, hD, hA⟩ := hv
  obtain ⟨W2, hW2⟩ : ∃ W2, W2 = W1.alloc (.cells (ndC n (.slice da n.data.length dc) (.slice aa n.acl.length ac)) 37) := ⟨_, rfl⟩
  have hE2 : Ext W1 W2 := by rw [hW2]; exact Ext.alloc _ _
  have hz2 : W2.heap.size = W1.heap.size + 1 := by rw [hW2]; simp
  have hr2 := (hE2.block w.heap.size (by omega)).trans hr1
  have hb2 : W2.heap[W1.heap.size]? = some (.cells (ndC n (.slice da n.data.length dc) (.slice aa n.acl.length ac)) 37 (0, 0)) := by rw [hW2]; exact heap_alloc_new W1 _
  have hD2 : Cells W2.heap.size W2 da (n.data.map u8v) := (hD.cells hd.bound).ext hE2
  have hA2 : Cells W2.heap.size W2 aa (acCs n.acl) := (hA.cells hd.bound).ext hE2
  have C := sclone_nd n da aa dc ac W2 hfit hD2 hA2
  have HSET := Lib.hid ((setRow_alloc W1 zeroNd (ndC n (.slice da n.data.length dc) (.slice aa n.acl.length ac)) 37).trans hW2.symm)
  have HNew := Lib.hid (heap_alloc_new W1 (.cells zeroNd 37))
  rw [hz1] at hb2
  have HB2 := Lib.hid hb2
  have HR2 := Lib.hid hr2
  have HW1 := Lib.hid hW1
  have HN := Lib.hid hn
  unfold ndC at HSET HB2 C hq
  unfold zeroNd at HSET HNew HW1 HR2
  unfold Box treeC at hx
  have C := Lib.hid C
  have hx' := hx
  have hq' := hq
  have HS' := HSET.out
  rw [HW1.out] at hx' hq' HS'
  rw [World.size_alloc] at HS'
  have HS2 := Lib.hid HS'
  have HNew' := HNew.out
  rw [HW1.out, World.size_alloc] at HNew'
  have HN2 := Lib.hid HNew'
  clear HSET HNew HNew' HS' hx hq
  clear hW1 hr1 hd hNd hKd hD hA hW2 hb2 hr2 hD2 hA2 hT hn hok hbnd hfit
  go_enter Tryd.func39, Tryd.ntmps39
  go_wp2_with (first | (refine wpList_store_row rfl 37 (.tmp 6) (.tmp 18) rfl (w.heap.size + 1) _ rfl rfl 37 _ HN2.out sizeNd rfl (cells_node n da aa _ _ dc ac) ?_; rw [HS2.out]) | (refine wpList_load_row rfl 37 (.tmp 6) rfl (w.heap.size + 1) rfl 37 _ (0, 0) _ HB2.out Tryd.underlying37 rfl sizeNd ?_))
  refine C.out.mono ?_
  rintro e w3 ⟨v3, rfl, hN3, hb3⟩
  have hE3 : Ext W2 w3 := hb3
  obtain ⟨va, vc, vb, vd, rfl, h1, h2⟩ := hN3
  have HR3 := Lib.hid ((hE3.block w.heap.size (by omega)).trans HR2.out)
  have hz3 := hE3.size
  have hEw : Ext w w3 := (hE1.trans hE2).trans hE3
  clear C HB2 HN2 HS2 hx' hq' hb3
  go_wp2_with (refine wpList_store_row rfl 37 (.tmp 4) (.tmp 21) rfl w.heap.size _ rfl rfl 37 _ HR3.out sizeNd rfl (cells_node n va vb _ _ vc vd) ?_)
  obtain ⟨cs, hcs⟩ : ∃ cs, cs = ndC n (.slice va n.data.length vc) (.slice vb n.acl.length vd) := ⟨_, rfl⟩
  have hR4 := setRow_heap w3 w.heap.size _ cs 37 (0, 0) HR3.out
  have hs4 : (w3.setRow w.heap.size cs).heap.size = w3.heap.size := by simp [World.setRow]
  have hb4 : Ext w (w3.setRow w.heap.size cs) := hEw.trans' ⟨rfl, rfl, rfl, by rw [hs4]; exact Nat.le_refl _, fun k hk => setRow_other _ _ _ _ (by omega)⟩
  have hk : ∀ (b o : Nat) u, (W2.heap.size ≤ b ∧ b < w3.heap.size) → w3.cell? ⟨b, o, none⟩ = some u → (w3.setRow w.heap.size cs).cell? ⟨b, o, none⟩ = some u := fun b o u hb hu =>
    (World.cell?_of_block (setRow_other _ _ _ _ (show b ≠ w.heap.size by have := hb.1; omega))).trans hu
  have c1 := h1.imp (S' := fun b => w.heap.size ≤ b ∧ b < (w3.setRow w.heap.size cs).heap.size) (fun b hb => ⟨by omega, by omega⟩) hk
  have c2 := h2.imp (S' := fun b => w.heap.size ≤ b ∧ b < (w3.setRow w.heap.size cs).heap.size) (fun b hb => ⟨by omega, by omega⟩) hk
  have hsz17 : (Tryd.prog.info? 37).map (·.size) = some cs.size := by rw [hcs]; exact sizeNd
  have hfin : GetOut M s w (.returned (.tuple #[.agg cs, .bool (mget M s.data.toList).isSome])) (w3.setRow w.heap.size cs) :=
    ⟨_, rfl, by rw [HN.out]; exact ⟨va, vc, vb, vd, by rw [hcs], c1, c2⟩, hb4⟩
  rw [hcs] at hfin hR4 hsz17
  refine bodyPost_ret (v := .tuple #[.agg (ndC n (.slice va n.data.length vc) (.slice vb n.acl.length vd)), .bool (mget M s.data.toList).isSome]) ?_ rfl hfin
  exact results_cell_row2 (p := 4) (q := 5) (ty := 37) rfl _ _ w.heap.size 37 _ (0, 0) _ _ rfl rfl hR4 Tryd.underlying37 rfl hsz17
end Go.Proofs.YtfgjbcejpjcpeaaDoor
