/- The walks of Count, Get. A slice of nodes, opened. What the bound on the bulk says of a list of nodes: how long it is. A range over a function: a law in which the function says what holds of each value that it hands over, and the rounds say what they keep. The walk of Add. The walk of Remove. slices.Sorted(maps.Keys(m)) at the two maps of a tree: its keys in order. -/
import Derived.Test.YtamolbegmkngdaaDoorJDigestBack5
import Derived.Test.YtamolbegmkngdaaDoorJDigestBack2
import Derived.Test.YtamolbegmkngdaaDoorRows
import Derived.Test.YtamolbegmkngdaaDoorJDigestBack3
import Derived.RangeFuncCalls
import Derived.Test.YtamolbegmkngdaaDoorIter
namespace Go.Proofs.YtamolbegmkngdaaDoor
open Go.RowKit
set_option maxHeartbeats 2000000
set_option maxRecDepth 100000

theorem results_cell_row2 {P : Program} {fn : Func} {p q : Tmp} {ty : TypeId} (h : fn.results = #[.cell p ty, .tmp q]) (tmps : Array Value) (w : World) (g : Nat) (t : TypeId) (cs : Array Value) (fr : Nat × Nat) (d : TypeDesc) (v : Value)
    (hp : tmps.getD p undef = .pointer (some ⟨g, 0, none⟩)) (hq : tmps.getD q undef = v) (hg : w.heap[g]? = some (.cells cs t fr))
    (hu : P.underlying ty = some d) (hd : (match d with | .struct _ | .array _ _ => true | _ => false) = true) (hi : (P.info? ty).map (·.size) = some cs.size) :
    (results fn tmps).run P w = .ok (.tuple #[.agg cs, v]) w := by
  have hp' : tmps[p]?.getD undef = .pointer (some ⟨g, 0, none⟩) := by simpa using hp
  have hq' : tmps[q]?.getD undef = v := by simpa using hq
  simp [results, h, hp', hq', asAddr, run_loadVar_row w g t ty cs fr d hg hu hd hi]

theorem TreeAt.box {S : Nat → Prop} {w : World} {bt bn bk : Nat} (hd : Hd S w bt bn bk) : Box w bt (treeC bn bk) := fun j => cell_of_row _ _ _ _ _ _ hd.blk

theorem tcount_any (S : Nat → Prop) (w : World) (bt : Nat) (M : List (Key × Nd)) (N : Nat) (hT : TreeAt S w bt M N) : Calls Tryd.prog 13 #[.pointer (some ⟨bt, 0, none⟩)] w fun e w' => e = .returned (.int .i64 M.length) ∧ w = w' := by
  obtain ⟨bn, bk, K, hd, hNd, hKd⟩ := hT
  obtain ⟨m, hm, hr⟩ := hNd.ex
  have hx := TreeAt.box hd
  have hlen := fun ty => hm.len (e := 37) Tryd.underlying64 ty
  have HL := Lib.hid hr.length
  unfold Box treeC at hx
  clear hm hr hd hNd hKd
  go_enter Tryd.func13, Tryd.ntmps13
  go_wp2
  go_ret
  exact ⟨by rw [HL.out]; rfl, rfl⟩

def zeroN : Nd := ⟨⟨#[]⟩, [], [], 0, 0, 0, 0, 0, 0, 0, 0, 0, 0, 0, false, 0, 0⟩
theorem zeroN_fit : Fit zeroN := ⟨by simp [zeroN, ByteArray.size], by simp [zeroN], by simp [zeroN], fun x hx => by simp [zeroN] at hx⟩
theorem zeroN_nds (S : Nat → Prop) (w : World) : NdS S w (.agg zeroNd) zeroN := ⟨none, 0, none, 0, rfl, fun j u h => by simp [zeroN] at h, fun j u h => by simp [zeroN, acCs] at h⟩

theorem NodesAt.look' {S : Nat → Prop} {w : World} {bn : Nat} {M : List (Key × Nd)} {N : Nat} (h : NodesAt S w bn M N) (s : ByteArray) (hs : s.size ≤ maxLen) :
    ∃ v, NdS S w v ((mget M s.data.toList).getD zeroN) ∧ (Instr.lookup 64 (.map (some bn)) (.string s) true).run Tryd.prog w = .ok (.tuple #[v, .bool (mget M s.data.toList).isSome]) w ∧
      (Instr.lookup 64 (.map (some bn)) (.string s) false).run Tryd.prog w = .ok v w := by
  obtain ⟨mm, hm, hr⟩ := h.ex
  have q1 := SMap.look_ok (e := 37) hm strT Tryd.underlying64 (z := .agg zeroNd) (by kernel_rfl) hs
  have q2 := SMap.look (e := 37) hm strT Tryd.underlying64 (z := .agg zeroNd) (by kernel_rfl) hs
  rcases hr.get s.data.toList with ⟨h1, h2⟩ | ⟨y, v, h1, h2, h3⟩
  · rw [h2] at q1 q2
    rw [h1]
    exact ⟨.agg zeroNd, zeroN_nds S w, q1, q2⟩
  · rw [h2] at q1 q2
    rw [h1]
    exact ⟨v, h3, q1, q2⟩

theorem MOk.fit {M : List (Key × Nd)} (h : MOk M) (k : Key) : Fit ((mget M k).getD zeroN) := by
  cases hg : mget M k with
  | none => exact zeroN_fit
  | some n => exact (right_fit (h.at hg).2).1

def GetOut (M : List (Key × Nd)) (s : ByteArray) (w : World) (e : Ending) (w' : World) : Prop :=
  ∃ v, e = .returned (.tuple #[v, .bool (mget M s.data.toList).isSome]) ∧ NdS (fun b => w.heap.size ≤ b ∧ b < w'.heap.size) w' v ((mget M s.data.toList).getD zeroN) ∧ Ext w w'

theorem tget_any (S : Nat → Prop) (w : World) (bt : Nat) (M : List (Key × Nd)) (N : Nat) (hT : TreeAt S w bt M N) (s : ByteArray) (hs : s.size ≤ maxLen) : Calls Tryd.prog 19 #[.pointer (some ⟨bt, 0, none⟩), .string s] w (GetOut M s w) := by
  obtain ⟨W1, hW1⟩ : ∃ W1, W1 = w.alloc (.cells zeroNd 37) := ⟨_, rfl⟩
  have hE1 : Ext w W1 := by rw [hW1]; exact Ext.alloc _ _
  have hz1 : W1.heap.size = w.heap.size + 1 := by rw [hW1]; simp
  have hr1 : W1.heap[w.heap.size]? = some (.cells zeroNd 37 (0, 0)) := by rw [hW1]; exact heap_alloc_new w _
  have hT1 := hT.ext hE1
  have hok := hT.ok
  have hbnd := hT.bound
  obtain ⟨bn, bk, K, hd, hNd, hKd⟩ := hT1
  have hx := TreeAt.box hd
  obtain ⟨v, hv, hq, hq2⟩ := hNd.look' s hs
  clear hq2
  have hfit := hok.fit s.data.toList
  generalize hn : (mget M s.data.toList).getD zeroN = n at *
  obtain ⟨da, dc, aa, ac, rfl, hD, hA⟩ := hv
  obtain ⟨W2, hW2⟩ : ∃ W2, W2 = W1.alloc (.cells (ndC n (.slice da n.data.length dc) (.slice aa n.acl.length ac)) 37) := ⟨_, rfl⟩
  have hE2 : Ext W1 W2 := by rw [hW2]; exact Ext.alloc _ _
  have hz2 : W2.heap.size = W1.heap.size + 1 := by rw [hW2]; simp
  have hr2 := (hE2.block w.heap.size (by omega)).trans hr1
  have hb2 : W2.heap[W1.heap.size]? = some (.cells (ndC n (.slice da n.data.length dc) (.slice aa n.acl.length ac)) 37 (0, 0)) := by rw [hW2]; exact heap_alloc_new W1 _
  have hD2 : Cells W2.heap.size W2 da (n.data.map u8v) := (hD.cells hd.bound).ext hE2
  have hA2 : Cells W2.heap.size W2 aa (acCs n.acl) := (hA.cells hd.bound).ext hE2
  have C := sclone_nd n da aa dc ac W2 hfit hD2 hA2
  have HSET := Lib.hid ((setRow_alloc W1 zeroNd (ndC n (.slice da n.data.length dc) (.slice aa n.acl.length ac)) 37).trans hW2.symm)
  have HNew := Lib.hid (heap_alloc_new W1 (.cells zeroNd 37))
  rw [hz1] at hb2
  have HB2 := Lib.hid hb2
  have HR2 := Lib.hid hr2
  have HW1 := Lib.hid hW1
  have HN := Lib.hid hn
  unfold ndC at HSET HB2 C hq
  unfold zeroNd at HSET HNew HW1 HR2
  unfold Box treeC at hx
  have C := Lib.hid C
  have hx' := hx
  have hq' := hq
  have HS' := HSET.out
  rw [HW1.out] at hx' hq' HS'
  rw [World.size_alloc] at HS'
  have HS2 := Lib.hid HS'
  have HNew' := HNew.out
  rw [HW1.out, World.size_alloc] at HNew'
  have HN2 := Lib.hid HNew'
  clear HSET HNew HNew' HS' hx hq
  clear hW1 hr1 hd hNd hKd hD hA hW2 hb2 hr2 hD2 hA2 hT hn hok hbnd hfit
  go_enter Tryd.func19, Tryd.ntmps19
  go_wp2_with (first | (refine wpList_store_row rfl 37 (.tmp 6) (.tmp 18) rfl (w.heap.size + 1) _ rfl rfl 37 _ HN2.out sizeNd rfl (cells_node n da aa _ _ dc ac) ?_; rw [HS2.out]) | (refine wpList_load_row rfl 37 (.tmp 6) rfl (w.heap.size + 1) rfl 37 _ (0, 0) _ HB2.out Tryd.underlying37 rfl sizeNd ?_))
  refine C.out.mono ?_
  rintro e w3 ⟨v3, rfl, hN3, hb3⟩
  have hE3 : Ext W2 w3 := hb3
  obtain ⟨va, vc, vb, vd, rfl, h1, h2⟩ := hN3
  have HR3 := Lib.hid ((hE3.block w.heap.size (by omega)).trans HR2.out)
  have hz3 := hE3.size
  have hEw : Ext w w3 := (hE1.trans hE2).trans hE3
  clear C HB2 HN2 HS2 hx' hq' hb3
  go_wp2_with (refine wpList_store_row rfl 37 (.tmp 4) (.tmp 21) rfl w.heap.size _ rfl rfl 37 _ HR3.out sizeNd rfl (cells_node n va vb _ _ vc vd) ?_)
  obtain ⟨cs, hcs⟩ : ∃ cs, cs = ndC n (.slice va n.data.length vc) (.slice vb n.acl.length vd) := ⟨_, rfl⟩
  have hR4 := setRow_heap w3 w.heap.size _ cs 37 (0, 0) HR3.out
  have hs4 : (w3.setRow w.heap.size cs).heap.size = w3.heap.size := by simp [World.setRow]
  have hb4 : Ext w (w3.setRow w.heap.size cs) := hEw.trans' ⟨rfl, rfl, rfl, by rw [hs4]; exact Nat.le_refl _, fun k hk => setRow_other _ _ _ _ (by omega)⟩
  have hk : ∀ (b o : Nat) u, (W2.heap.size ≤ b ∧ b < w3.heap.size) → w3.cell? ⟨b, o, none⟩ = some u → (w3.setRow w.heap.size cs).cell? ⟨b, o, none⟩ = some u := fun b o u hb hu =>
    (World.cell?_of_block (setRow_other _ _ _ _ (show b ≠ w.heap.size by have := hb.1; omega))).trans hu
  have c1 := h1.imp (S' := fun b => w.heap.size ≤ b ∧ b < (w3.setRow w.heap.size cs).heap.size) (fun b hb => ⟨by omega, by omega⟩) hk
  have c2 := h2.imp (S' := fun b => w.heap.size ≤ b ∧ b < (w3.setRow w.heap.size cs).heap.size) (fun b hb => ⟨by omega, by omega⟩) hk
  have hsz17 : (Tryd.prog.info? 37).map (·.size) = some cs.size := by rw [hcs]; exact sizeNd
  have hfin : GetOut M s w (.returned (.tuple #[.agg cs, .bool (mget M s.data.toList).isSome])) (w3.setRow w.heap.size cs) :=
    ⟨_, rfl, by rw [HN.out]; exact ⟨va, vc, vb, vd, by rw [hcs], c1, c2⟩, hb4⟩
  rw [hcs] at hfin hR4 hsz17
  refine bodyPost_ret (v := .tuple #[.agg (ndC n (.slice va n.data.length vc) (.slice vb n.acl.length vd)), .bool (mget M s.data.toList).isSome]) ?_ rfl hfin
  exact results_cell_row2 (p := 4) (q := 5) (ty := 37) rfl _ _ w.heap.size 37 _ (0, 0) _ _ rfl rfl hR4 Tryd.underlying37 rfl hsz17
end Go.Proofs.YtamolbegmkngdaaDoor
namespace Go.Proofs.YtamolbegmkngdaaDoor
open Go.ChangeShapes Go.WideShapes Go.ChangeAt Go.RowKit Go.Deep
set_option maxHeartbeats 2000000
set_option maxRecDepth 100000

theorem Tryd.bytes_node : Tryd.prog.bytesOf 37 = 168 := by kernel_rfl

instance : Inhabited Nd := ⟨zeroN⟩

section
variable {H : Type} {enc : TypeId × Value → H} {w : World} {fuel : Nat}

/-- A slice of nodes, opened. -/
theorem open_nodes_cap {v : Value} {x : DataW H × List MemPlace} (h : DataW.trod enc Tryd.prog w 0 (fun _ => true) true fuel 22 [v] = some x) (hz : Light 22 x.1) :
    ∃ (l : List Nd) (a : Option Addr) (cap : Nat), v = .slice a l.length cap ∧ l.length * 168 ≤ 140737488355328 ∧ (∀ n ∈ l, Fit n) ∧ NdsAt w.heap.size w a l ∧ l.length ≤ cap := by
  rcases open_slice Tryd.underlying22 h with ⟨hcs, rfl⟩ | ⟨a, len, cap, m, n, D, Pl, hcs, _, hl, hm, hmm, rfl, hx⟩
  · simp only [List.cons.injEq, and_true] at hcs
    subst hcs
    exact ⟨[], none, 0, rfl, by simp, by simp, fun i n h => (by simp at h), by simp⟩
  · simp only [List.cons.injEq, and_true] at hcs
    subst hcs
    simp only [if_true] at hmm
    subst hmm
    have hw := light_len Tryd.underlying22 hz
    rw [Tryd.bytes_node] at hw
    simp only [List.length_map, List.length_range] at hw
    obtain ⟨X, hX⟩ := choose_lt (n := len) (p := fun i (n : Nd) => ∃ v, NdV w.heap.size w v n ∧ (∀ r u, v.cells[r]? = some u → w.cell? ((a.add (i * 17)).add r) = some u) ∧ Fit n ∧ v.cells[0]? ≠ none) fun i hi => by
      obtain ⟨cs', h1, h2⟩ := hx i (by omega)
      obtain ⟨n, da, aa, dc, ac, rfl, hf, hD, hA⟩ := open_node h2 (light_elem Tryd.underlying22 hz (List.mem_map.2 ⟨i, List.mem_range.2 hi, rfl⟩))
      rw [Tryd.cells_node] at h1
      obtain ⟨_, _, h3⟩ := World.cells?_some h1
      refine ⟨n, _, ⟨da, dc, aa, ac, rfl, hD, hA⟩, fun r u hr => ?_, hf, fun h => by cases h⟩
      have hr' : (ndC n (.slice da n.data.length dc) (.slice aa n.acl.length ac))[r]? = some u := hr
      rw [h3 r (by have := (Array.getElem?_eq_some_iff.1 hr').1; simpa [ndC] using this)]
      simpa using hr'
    refine ⟨(List.range len).map X, some a, m, by simp, by simp; omega, fun x hx' => ?_, fun j n hj => ?_, by simp; omega⟩
    · obtain ⟨i, hi, rfl⟩ := List.mem_map.1 hx'
      obtain ⟨_, _, _, h, _⟩ := hX i (List.mem_range.1 hi)
      exact h
    · simp only [List.getElem?_map] at hj
      by_cases hi : j < len
      · rw [List.getElem?_range hi] at hj
        simp only [Option.map_some, Option.some.injEq] at hj
        subst hj
        obtain ⟨v, hv, hc, _, _⟩ := hX j hi
        obtain ⟨_, _, hc00, _, h0⟩ := hX 0 (by omega)
        obtain ⟨u0, hu0⟩ := Option.ne_none_iff_exists'.1 h0
        have hc0 := hc00 0 _ hu0
        have hsp := World.cell?_spot hc0
        have hlt := World.block_lt_of_cell? _ _ hc0
        obtain ⟨b, off, sp⟩ := a
        obtain rfl : sp = none := by simpa [Addr.add] using hsp
        refine ⟨b, off, v, rfl, by simpa [Addr.add] using hlt, hv, fun r u hr => ?_⟩
        have := hc r u hr
        rw [add_plain, add_plain] at this
        rw [← this]
      · rw [List.getElem?_eq_none (by simp; omega)] at hj
        simp at hj
theorem open_nodes {v : Value} {x : DataW H × List MemPlace} (h : DataW.trod enc Tryd.prog w 0 (fun _ => true) true fuel 22 [v] = some x) (hz : Light 22 x.1) :
    ∃ (l : List Nd) (a : Option Addr) (cap : Nat), v = .slice a l.length cap ∧ l.length * 168 ≤ 140737488355328 ∧ (∀ n ∈ l, Fit n) ∧ NdsAt w.heap.size w a l := by
  obtain ⟨l, a, c, h1, h2, h3, h4, _⟩ := open_nodes_cap h hz
  exact ⟨l, a, c, h1, h2, h3, h4⟩
end
end Go.Proofs.YtamolbegmkngdaaDoor
namespace Go.Proofs.YtamolbegmkngdaaDoor
open Go.ChangeShapes Go.WideShapes Go.ChangeAt Go.RowKit Go.Deep
set_option maxHeartbeats 2000000

theorem bulk_pos {H : Type} (d : DataW H) : 1 ≤ Rows.uptoBulk d := by
  cases d with
  | lit l => cases l <;> simp [Rows.uptoBulk]
  | _ => simp [Rows.uptoBulk]
theorem bulk_mem {H : Type} {d : DataW H} : ∀ {l : List (DataW H)}, d ∈ l → Rows.uptoBulk d ≤ Rows.uptoBulkAll l
  | [], h => by cases h
  | x :: r, h => by
    simp only [Rows.uptoBulkAll]
    rcases List.mem_cons.1 h with rfl | h
    · omega
    · have := bulk_mem h; omega
theorem bulk_len {H : Type} : ∀ l : List (DataW H), l.length ≤ Rows.uptoBulkAll l
  | [] => by simp
  | x :: r => by
    have h1 := bulk_pos x
    have h2 := bulk_len r
    simp only [Rows.uptoBulkAll, List.length_cons]; omega

/-- A slice is no longer than its bulk. -/
theorem slice_bulk {H : Type} {enc : TypeId × Value → H} {w : World} {fuel : Nat} {t e : TypeId} (ht : Tryd.prog.underlying t = some (.slice e)) {a : Option Addr} {len cap : Nat} {x : DataW H × List MemPlace} (h : DataW.trod enc Tryd.prog w 0 (fun _ => true) true fuel t [.slice a len cap] = some x) : len ≤ Rows.uptoBulk x.1 := by
  rcases open_slice ht h with ⟨hcs, rfl⟩ | ⟨a', len', cap', m, n, D, Pl, hcs, _, hl, hm, hmm, rfl, hx⟩
  · simp only [List.cons.injEq, and_true, Value.slice.injEq] at hcs
    omega
  · simp only [List.cons.injEq, and_true, Value.slice.injEq] at hcs
    obtain ⟨_, rfl, _⟩ := hcs
    have := bulk_len ((List.range len).map D)
    simp only [Rows.uptoBulk]
    rw [List.length_map, List.length_range] at this
    omega
theorem small_mem {H : Type} {l : List (DataW H)} (h : Rows.uptoSmall H l = true) {d : DataW H} (hd : d ∈ l) : Rows.uptoBulk d ≤ 1048576 := by
  have h1 : Rows.uptoBulkAll l ≤ 1048576 := of_decide_eq_true h
  have := bulk_mem hd
  omega
end Go.Proofs.YtamolbegmkngdaaDoor
namespace Go.Proofs.YtamolbegmkngdaaDoor
open Go.RowKit
variable {F : Fence} {n : Nat} {P : Program}

/-- A record of a loop over a function, or its block for deferred calls. -/
def recB : Obj → Bool
  | .loop _ => true
  | .deferred _ => true
  | _ => false

/-- All is as it was but such records from block B on; the rest is new. -/
structure Turn (B : Nat) (W W' : World) : Prop where
  os : W'.os = W.os
  tape : W'.tape = W.tape
  output : W'.output = W.output
  size : W.heap.size ≤ W'.heap.size
  same : ∀ (k : Nat) (o : Obj), W.heap[k]? = some o → (k < B ∨ recB o = false) → W'.heap[k]? = some o
theorem Turn.refl (B : Nat) (W : World) : Turn B W W := ⟨rfl, rfl, rfl, Nat.le_refl _, fun _ _ h _ => h⟩
theorem Turn.trans {B : Nat} {X Y Z : World} (h : Turn B X Y) (k : Turn B Y Z) : Turn B X Z :=
  ⟨k.os.trans h.os, k.tape.trans h.tape, k.output.trans h.output, Nat.le_trans h.size k.size, fun i o hi ho => k.same i o (h.same i o hi ho) ho⟩
theorem Turn.of_ext {B : Nat} {W W' : World} (h : Ext W W') : Turn B W W' :=
  ⟨h.os, h.tape, h.output, h.size, fun k o hk _ => (h.block k (Array.getElem?_eq_some_iff.1 hk).1).trans hk⟩
theorem Turn.putObj {B r : Nat} {W : World} {o : Obj} (o' : Obj) (hB : B ≤ r) (h : W.heap[r]? = some o) (hr : recB o = true) : Turn B W (W.putObj r o') :=
  ⟨rfl, rfl, rfl, by simp, fun k o'' hk ho => by
    by_cases e : k = r
    · subst e
      rw [h] at hk
      cases hk
      rcases ho with ho | ho
      · omega
      · rw [hr] at ho; cases ho
    · exact (World.putObj_heap_other e).trans hk⟩
theorem Turn.below {B B' : Nat} {W W' : World} (h : Turn B W W') (hB : B' ≤ B) (hs : B' ≤ W.heap.size) : Below B' W W' :=
  ⟨h.os, h.tape, h.output, h.size, fun k hk => by
    have hk' : k < W.heap.size := by omega
    rw [h.same k _ (Array.getElem?_eq_getElem hk') (.inl (by omega)), Array.getElem?_eq_getElem hk']⟩

/-- The records from block B on are as they were. -/
structure KeepsRec (B : Nat) (W W' : World) : Prop where
  size : W.heap.size ≤ W'.heap.size
  same : ∀ (k : Nat) (o : Obj), B ≤ k → W.heap[k]? = some o → recB o = true → W'.heap[k]? = some o
theorem KeepsRec.refl (B : Nat) (W : World) : KeepsRec B W W := ⟨Nat.le_refl _, fun _ _ _ h _ => h⟩
theorem KeepsRec.trans {B : Nat} {X Y Z : World} (h : KeepsRec B X Y) (k : KeepsRec B Y Z) : KeepsRec B X Z :=
  ⟨Nat.le_trans h.size k.size, fun i o hB hi ho => k.same i o hB (h.same i o hB hi ho) ho⟩
theorem KeepsRec.of_ext {B : Nat} {W W' : World} (h : Ext W W') : KeepsRec B W W' := ⟨h.size, fun k _ _ hk _ => (h.block k (Array.getElem?_eq_some_iff.1 hk).1).trans hk⟩

/-- How the body of a round may be left. -/
def tellPost {α : Type} (B : Nat) (Keep : World → World → Prop) (I : List α → World → Prop) (Ix : Code → List α → World → Prop) (xs : List α) (W : World) : Exit → Act → World → Prop
  | .normal, _, W' => KeepsRec B W W' ∧ Keep W W' ∧ I xs W'
  | .ret, _, W' => KeepsRec B W W' ∧ Ix .ret xs W'
  | .exit id, _, W' => KeepsRec B W W' ∧ Ix (.exit id) xs W'
  | .goto t, _, W' => KeepsRec B W W' ∧ Ix (.goto t) xs W'
  | .panic _, _, _ => False
  | .outgrown, _, _ => False

/-- What a function that is ranged over does: gf with what it has captured. -/
def Tells {α : Type} (F : Fence) (n : Nat) (P : Program) (gf : Nat) (lb : Array Value) (encs : α → Array Value) (G : α → World → Prop) (Keep : World → World → Prop) (Safe : World → Nat → Prop) (S Sp : List α → Prop) (w : World) : Prop :=
  ∀ (l : Nat) (J Jx : List α → World → Prop) (W : World), Below w.heap.size w W → (∀ k, k < w.heap.size → Safe w k → Safe W k) →
    (∀ pre X Y, J pre X → Ext X Y → J pre Y ∧ (∀ k, Safe X k → Safe Y k) ∧ ∀ k, X.heap.size ≤ k → Safe Y k) →
    (∀ pre x W1, Sp (pre ++ [x]) → J pre W1 → G x W1 → YieldAt F (n - 1) P l (encs x) W1 fun e W' =>
      (e = .returned (.bool true) ∧ J (pre ++ [x]) W' ∧ Keep W1 W') ∨ (e = .returned (.bool false) ∧ Jx (pre ++ [x]) W')) →
    J [] W →
    CallsIn F n P gf (#[.func (.yield l) #[] #[]] ++ lb) W fun e W' => (∃ v, e = .returned v) ∧ ((∃ xs, S xs ∧ J xs W') ∨ (∃ pre, Sp pre ∧ Jx pre W'))

theorem wpIn_tells {α : Type} {g : Operand} {ps : Array Tmp} {assign body : Code} {Q : Exit → Act → World → Prop} {a : Act} {w : World}
    (hro : F.round = none) (h1 : 1 ≤ n) {gf : Nat} {lb : Array Value} (hg : a.eval g = .func (.func gf) #[] lb) (hFg : F.fn gf) (eg : ∀ args w, (callFunc gf args).run P w = .ok (.enter gf args) w)
    {encs : α → Array Value} {G : α → World → Prop} {Keep : World → World → Prop} {Safe : World → Nat → Prop} {S Sp : List α → Prop}
    (hseq : Tells F (n - 1) P gf lb encs G Keep Safe S Sp w) (hps : ∀ x, (encs x).size = ps.size)
    (I : List α → World → Prop) (Ix : Code → List α → World → Prop) (Ax : α → Act → World → Prop)
    (hKeep : ∀ A X Y B, Turn w.heap.size A X → Keep X Y → Turn w.heap.size Y B → Keep A B)
    (hI : ∀ pre X Y, I pre X → Turn w.heap.size X Y → I pre Y ∧ (∀ k, Safe X k → Safe Y k) ∧ ∀ k, X.heap.size ≤ k → Safe Y k)
    (hIx : ∀ c pre X Y, Ix c pre X → Turn w.heap.size X Y → Ix c pre Y)
    (hG : ∀ x X Y, G x X → Turn w.heap.size X Y → G x Y)
    (hAx : ∀ x a' X Y, Ax x a' X → Turn w.heap.size X Y → Ax x a' Y)
    (h0 : I [] w)
    (hassign : ∀ (l : Nat) (pre : List α) (x : α) (W : World) (K : Act → World → Prop), I pre W → G x W → (∀ a' W', Ext W W' → Ax x a' W' → K a' W') →
      assign.wpIn (F.inRound l) (n - 1 - 1) P (Exit.then K (fun _ _ _ => False)) { tmps := (ps.zip (encs x)).foldl (fun t (p, v) => t.setIfInBounds p v) a.tmps, defers := [] } W)
    (hbody : ∀ (l : Nat) (pre : List α) (x : α) (a' : Act) (W : World), w.heap.size ≤ l → (∃ r, W.heap[l]? = some (.loop r)) → Sp (pre ++ [x]) → I pre W → G x W → Ax x a' W → body.wpIn (F.inRound l) (n - 1 - 1) P (tellPost w.heap.size Keep I Ix (pre ++ [x]) W) a' W)
    (hdone : ∀ (D : Nat) (xs : List α) (W : World), w.heap.size ≤ D → S xs → I xs W → W.heap[D]? = some (.deferred (some [])) → Q .normal { a with defers := { target := .collected D, args := #[] } :: a.defers } W)
    (hstop : ∀ (D : Nat) (c : Code) (pre : List α) (W : World), w.heap.size ≤ D → Sp pre → Ix c pre W → W.heap[D]? = some (.deferred (some [])) → c.wpIn F n P Q { a with defers := { target := .collected D, args := #[] } :: a.defers } W) :
    (Code.rangeFunc g ps assign body).wpIn F n P Q a w := by
  refine wpIn_rangeFunc fun fn hfn => ?_
  rw [hro]
  obtain ⟨rec, hrec⟩ : ∃ rec : LoopState → Option Code → Loop, rec = fun st pe => { state := st, pending := pe, fn, tmps := a.tmps, params := ps, assign, body, defers := w.heap.size } := ⟨_, rfl⟩
  obtain ⟨W1, hW1⟩ : ∃ W1, (w.alloc (.deferred (some []))).alloc (.loop (rec .ready none)) = W1 := ⟨_, rfl⟩
  have hE1 : Ext w W1 := by rw [← hW1]; exact (Ext.alloc w _).trans (Ext.alloc _ _)
  have hL1 : W1.heap[w.heap.size + 1]? = some (.loop (rec .ready none)) := by
    rw [← hW1]; have := World.alloc_heap_new (w.alloc (.deferred (some []))) (.loop (rec .ready none)); rwa [World.size_alloc] at this
  have hD1 : W1.heap[w.heap.size]? = some (.deferred (some [])) := by
    rw [← hW1]; exact (Below.heap_alloc _ _ _ (by simp)).trans (World.alloc_heap_new w _)
  have hI1 := hI [] w W1 h0 (Turn.of_ext hE1)
  refine ⟨w.heap.size + 1, [{ target := .collected w.heap.size, args := #[] }], W1, { target := .fn (.func gf) lb, args := #[.func (.yield (w.heap.size + 1)) #[] #[]] }, W1, gf,
    #[.func (.yield (w.heap.size + 1)) #[] #[]] ++ lb, W1, ?_, ?_, ?_, ?_, fun _ => h1, ?_⟩
  · rw [← hW1, hrec]; exact run_enterLoop_outer _ _ _ _ _
  · simp only [resolve, hg]
    simp [go_sem]
  · intro f' hf'; simp [Target.leads] at hf'; subst hf'; exact hFg
  · simp [invoke, go_sem, eg]
  refine (hseq (w.heap.size + 1)
      (fun pre W => I pre W ∧ W.heap[w.heap.size + 1]? = some (.loop (rec .ready none)) ∧ W.heap[w.heap.size]? = some (.deferred (some [])))
      (fun pre W => ∃ c, Ix c pre W ∧ W.heap[w.heap.size + 1]? = some (.loop (rec .done (some c))) ∧ W.heap[w.heap.size]? = some (.deferred (some [])))
      W1 hE1 (fun k _ h => hI1.2.1 k h) (fun pre X Y hJ hE => ?_) ?_ ⟨hI1.1, hL1, hD1⟩).mono ?_
  · obtain ⟨h2, h3, h4⟩ := hJ
    have := hI pre X Y h2 (Turn.of_ext hE)
    exact ⟨⟨this.1, (hE.block _ (Array.getElem?_eq_some_iff.1 h3).1).trans h3, (hE.block _ (Array.getElem?_eq_some_iff.1 h4).1).trans h4⟩, this.2⟩
  · rintro pre x W hSp ⟨hi, hl, hk⟩ hGx
    have hlt : w.heap.size + 1 < W.heap.size := (Array.getElem?_eq_some_iff.1 hl).1
    have hy := run_yield (P := P) (args := encs x) hl (by rw [hrec]; exact hps x)
    rw [hrec] at hy
    refine ⟨fn, _, assign, body, hy, roundIn_of_wpIn hfn (hassign _ pre x W _ hi hGx ?_)⟩
    clear hy
    intro a' Wa hEa hax
    have hla := (hEa.block _ hlt).trans hl
    have hka := (hEa.block w.heap.size (by omega)).trans hk
    have hlta : w.heap.size + 1 < Wa.heap.size := (Array.getElem?_eq_some_iff.1 hla).1
    refine ⟨_, run_beginRound hla (by rw [hrec]), ?_⟩
    obtain ⟨Wb, hWb⟩ : ∃ Wb, Wa.putObj (w.heap.size + 1) (.loop { rec .ready none with state := .busy }) = Wb := ⟨_, rfl⟩
    rw [hWb]
    have hTb : Turn w.heap.size Wa Wb := by rw [← hWb]; exact Turn.putObj _ (by omega) hla rfl
    have hTab : Turn w.heap.size W Wb := (Turn.of_ext hEa).trans hTb
    have hlb : Wb.heap[w.heap.size + 1]? = some (.loop { rec .ready none with state := .busy }) := by rw [← hWb]; exact World.putObj_heap_same hlta
    have hkb : Wb.heap[w.heap.size]? = some (.deferred (some [])) := by rw [← hWb]; exact (World.putObj_heap_other (by omega)).trans hka
    refine wpIn_mono (hbody _ pre x a' Wb (by omega) ⟨_, hlb⟩ hSp (hI pre W Wb hi hTab).1 (hG x W Wb hGx hTab) (hAx x a' Wa Wb hax hTb)) ?_
    have fin : ∀ (jump : Option Code) (W3 : World), KeepsRec w.heap.size Wb W3 →
        (Instr.endRound (w.heap.size + 1) jump).run P W3 = .ok (.bool jump.isNone) (W3.putObj (w.heap.size + 1) (.loop (rec (if jump.isNone then .ready else .done) jump))) ∧
        Turn w.heap.size W3 (W3.putObj (w.heap.size + 1) (.loop (rec (if jump.isNone then .ready else .done) jump))) ∧
        (W3.putObj (w.heap.size + 1) (.loop (rec (if jump.isNone then .ready else .done) jump))).heap[w.heap.size + 1]? = some (.loop (rec (if jump.isNone then .ready else .done) jump)) ∧
        (W3.putObj (w.heap.size + 1) (.loop (rec (if jump.isNone then .ready else .done) jump))).heap[w.heap.size]? = some (.deferred (some [])) := fun jump W3 hk3 => by
      have hl3 := hk3.same _ _ (by omega) hlb rfl
      have hk3' := hk3.same _ _ (Nat.le_refl _) hkb rfl
      have := run_endRound (P := P) jump hl3
      rw [hrec] at this ⊢
      exact ⟨this, Turn.putObj _ (by omega) hl3 rfl, World.putObj_heap_same (Array.getElem?_eq_some_iff.1 hl3).1, (World.putObj_heap_other (by omega)).trans hk3'⟩
    rintro e a3 W3 hp
    cases e with
    | normal =>
      obtain ⟨hk3, hkp3, hi3⟩ := hp
      obtain ⟨hr, hT, hl4, hk4⟩ := fin none W3 hk3
      exact ⟨_, _, hr, .inl ⟨rfl, ⟨(hI _ _ _ hi3 hT).1, hl4, hk4⟩, hKeep _ _ _ _ hTab hkp3 hT⟩⟩
    | ret =>
      obtain ⟨hk3, hi3⟩ := hp
      obtain ⟨hr, hT, hl4, hk4⟩ := fin (some .ret) W3 hk3
      exact ⟨_, _, hr, .inr ⟨rfl, .ret, hIx _ _ _ _ hi3 hT, hl4, hk4⟩⟩
    | exit id =>
      obtain ⟨hk3, hi3⟩ := hp
      obtain ⟨hr, hT, hl4, hk4⟩ := fin (some (.exit id)) W3 hk3
      exact ⟨_, _, hr, .inr ⟨rfl, .exit id, hIx _ _ _ _ hi3 hT, hl4, hk4⟩⟩
    | goto t =>
      obtain ⟨hk3, hi3⟩ := hp
      obtain ⟨hr, hT, hl4, hk4⟩ := fin (some (.goto t)) W3 hk3
      exact ⟨_, _, hr, .inr ⟨rfl, .goto t, hIx _ _ _ _ hi3 hT, hl4, hk4⟩⟩
    | panic ch => exact hp.elim
    | outgrown => exact hp.elim
  · rintro e W2 ⟨⟨v, rfl⟩, (⟨xs, hS, hi, hl, hk⟩ | ⟨pre, hSp, c, hi, hl, hk⟩)⟩
    · refine ⟨none, _, by have := run_endLoop (P := P) hl (by rw [hrec]; simp); rw [hrec] at this; exact this, ?_⟩
      exact hdone _ xs _ (Nat.le_refl _) hS (hI xs _ _ hi (Turn.putObj _ (by omega) hl rfl)).1 ((World.putObj_heap_other (by omega)).trans hk)
    · refine ⟨some c, _, by have := run_endLoop (P := P) hl (by rw [hrec]; simp); rw [hrec] at this; exact this, ?_⟩
      exact hstop _ c pre _ (Nat.le_refl _) hSp (hIx c pre _ _ hi (Turn.putObj _ (by omega) hl rfl)) ((World.putObj_heap_other (by omega)).trans hk)
end Go.Proofs.YtamolbegmkngdaaDoor
namespace Go.Proofs.YtamolbegmkngdaaDoor
open Go.RowKit
set_option maxHeartbeats 2000000
set_option maxRecDepth 100000

/-- What Add answers, and what it makes of the nodes. -/
def addE (M : List (Key × Nd)) (n : Nd) : Int :=
  if rightN n ≠ 0 then rightN n else if (mget M (keyN n)).isSome = true then 71 else if n.path.size = 1 ∨ mget M (parentB n.path).data.toList = none then 73 else 0
def addM (M : List (Key × Nd)) (n : Nd) : List (Key × Nd) := if addE M n = 0 then mput M (keyN n) n else M

def TreeTo (S : Nat → Prop) (w : World) (bt : Nat) (M' : List (Key × Nd)) (N' : Nat) (v : Value) (e : Ending) (w' : World) : Prop :=
  e = .returned v ∧ TreeAt (fun k => S k ∨ (w.heap.size ≤ k ∧ k < w'.heap.size)) w' bt M' N' ∧ Mod S w w'

theorem treeTo_same {S : Nat → Prop} {w w' : World} {bt : Nat} {M : List (Key × Nd)} {N N' : Nat} (hT : TreeAt S w bt M N) (hE : Ext w w') (hN : N ≤ N') (v : Value) : TreeTo S w bt M N' v (.returned v) w' :=
  ⟨rfl, (hT.ext hE).keep (fun _ _ => rfl) (fun _ h => .inl h) (fun k hk => hk.elim (fun h => Nat.lt_of_lt_of_le (hT.bound k h) hE.size) (fun h => h.2)) hN, Mod.of_ext hE⟩

theorem add_any (S : Nat → Prop) (w : World) (bt : Nat) (M : List (Key × Nd)) (N : Nat) (hT : TreeAt S w bt M N) (n : Nd) (da aa : Option Addr) (dc ac : Nat) (hu : Tabs w) (hf : Fit n) (hN : N < 4611686018427387904)
    (hD : Cells w.heap.size w da (n.data.map u8v)) (hA : Cells w.heap.size w aa (acCs n.acl)) :
    Calls Tryd.prog 23 #[.pointer (some ⟨bt, 0, none⟩), .agg (ndC n (.slice da n.data.length dc) (.slice aa n.acl.length ac))] w (TreeTo S w bt (addM M n) (N + 1) (.int .i64 (addE M n))) := by
  obtain ⟨W2, hW2⟩ : ∃ W2, W2 = w.alloc (.cells (ndC n (.slice da n.data.length dc) (.slice aa n.acl.length ac)) 37) := ⟨_, rfl⟩
  have he2 : Ext w W2 := by rw [hW2]; exact Ext.alloc _ _
  have hz2 : W2.heap.size = w.heap.size + 1 := by rw [hW2]; simp
  have hn2 : W2.heap[w.heap.size]? = some (.cells (ndC n (.slice da n.data.length dc) (.slice aa n.acl.length ac)) 37 (0, 0)) := by rw [hW2]; exact heap_alloc_new w _
  have hT2 := hT.ext he2
  have hD2 := hD.ext he2
  have hA2 := hA.ext he2
  have hu2 : Tabs W2 := hu.below he2 hu.size
  have CR := right_any n da aa dc ac W2 hf hu2 hA2
  rw [hW2] at CR
  have HW2 := Lib.hid hW2
  have HN := Lib.hid hn2
  have HTW := Lib.hid hT
  have HNW := Lib.hid (hW2 ▸ hn2)
  unfold ndC at CR HW2 HN HNW ⊢
  have CR := Lib.hid CR
  clear hW2 hn2 hT
  by_cases hr : rightN n = 0
  · have hM := hT2.ok
    have HR := Lib.hid hr
    have hps : n.path.size ≤ maxLen := by
      have := (vpath_facts (right_vpath hr)).2.1
      unfold maxLen; omega
    have hvp := right_vpath hr
    have hvf := vpath_facts hvp
    rw [hr] at CR
    clear hr
    go_enter Tryd.func23, Tryd.ntmps23
    go_wp2_with (refine wpList_load_row rfl 37 (.tmp 3) rfl w.heap.size rfl 37 _ (0, 0) _ HNW.out Tryd.underlying37 rfl sizeNd ?_)
    refine CR.out.mono ?_
    rintro e w3 ⟨rfl, hb3⟩
    rw [← HW2.out] at hb3
    have hE3 : Ext W2 w3 := hb3
    have hT3 := hT2.ext hE3
    have hn3 := (hE3.block w.heap.size (by omega)).trans HN.out
    have hD3 := hD2.ext hE3
    have hA3 := hA2.ext hE3
    have hEw3 := he2.trans hE3
    obtain ⟨bn, bk, K, hd, hNd, hKd⟩ := hT3
    clear CR HW2 HN HNW hb3 hz2 hD2 hA2 hu2 hT2
    go_wp2
    refine there_region _ _ _ _ _ _ _ _ _ _ _ _ 0 3 _ 54 rfl (by decide) (by decide) (by decide) hd hNd w.heap.size n.path _ hn3 rfl hps rfl rfl ?_
    intro v0 v1 v2 v3 v4 v5 v6 v7 v8 v9 v10 w4 hE4
    simp only [Act.put]
    go_simp
    rename_i hK
    refine hK _ _ ?_
    have hEw4 := hEw3.trans hE4
    have hT4 : TreeAt S w4 bt M N := TreeAt.ext ⟨bn, bk, K, hd, hNd, hKd⟩ hE4
    have hD4 := hD3.ext hE4
    have hA4 := hA3.ext hE4
    have hn4 := (hE4.block w.heap.size (Array.getElem?_eq_some_iff.1 hn3).1).trans hn3
    clear hd hNd hKd hn3 hD3 hA3 hEw3
    cases hg : mget M n.path.data.toList with
    | some y =>
      have hfin : TreeTo S w bt (addM M n) (N + 1) (.int .i64 (addE M n)) (.returned (.int .i64 71)) w4 := by
        have e : addE M n = 71 := by unfold addE; rw [if_neg (by rw [HR.out]; simp), if_pos (by unfold keyN; rw [hg]; rfl)]
        have e2 : addM M n = M := by unfold addM; rw [if_neg (by rw [e]; decide)]
        rw [e, e2]
        exact treeTo_same HTW.out hEw4 (by omega) _
      have HFIN := Lib.hid hfin
      clear hfin hT4 hEw4 hD4 hA4 hn4 hg
      go_wp2
      go_ret
      exact HFIN.out
    | none =>
      have HG := Lib.hid hg
      have hx4 : Box w4 w.heap.size (ndC n (.slice da n.data.length dc) (.slice aa n.acl.length ac)) := fun j => cell_of_row _ _ _ _ _ _ hn4
      have CP := parent_any n.path w4 (by omega)
      have hlt4 := (Array.getElem?_eq_some_iff.1 hn4).1
      have HN4 := Lib.hid hn4
      unfold Box ndC at hx4
      clear hg hn4
      have hpp : ∃ (pp : ByteArray) (ee : Int), parV n.path = .tuple #[.string pp, .int .i64 ee] ∧ pp.size ≤ maxLen ∧ ((n.path.size = 1 ∨ mget M (parentB n.path).data.toList = none) ↔ (mget M pp.data.toList = none ∨ ee ≠ 0)) ∧ (ee = 0 → pp = parentB n.path) := by
        by_cases hroot : n.path.size = 1
        · exact ⟨⟨#[]⟩, 30, by unfold parV; rw [if_neg (fun h => h.2 hroot)], by unfold maxLen; decide, ⟨fun _ => .inr (by decide), fun _ => .inl hroot⟩, fun h => by cases h⟩
        · have h1 := (path_split hvp hroot).2.2.1
          exact ⟨parentB n.path, 0, by unfold parV; rw [if_pos ⟨hvp, hroot⟩], by unfold maxLen; omega, ⟨fun h => .inl (h.resolve_left hroot), fun h => .inr (h.resolve_right (by simp))⟩, fun _ => rfl⟩
      obtain ⟨pp, ee, hpv, hpz, hiff, hpe⟩ := hpp
      rw [hpv] at CP
      have CP := Lib.hid CP
      have HIFF := Lib.hid hiff
      have HPE := Lib.hid hpe
      clear hpv hiff hpe hvp hvf
      go_wp2_with fail
      refine CP.out.mono ?_
      rintro e w5 ⟨rfl, hb5⟩
      have hE5 : Ext w4 w5 := hb5
      have hEw5 := hEw4.trans hE5
      have hT5 := hT4.ext hE5
      have hD5 := hD4.ext hE5
      have hA5 := hA4.ext hE5
      have hn5 := (hE5.block w.heap.size hlt4).trans HN4.out
      obtain ⟨bn, bk, K, hd, hNd, hKd⟩ := hT5
      have hT5 : TreeAt S w5 bt M N := ⟨bn, bk, K, hd, hNd, hKd⟩
      have hbox := TreeAt.box hd
      obtain ⟨cs, ⟨hc17, hc1⟩, hq, hq2, _⟩ := hNd.look pp hpz
      clear hq2
      have hsz17 : (Tryd.prog.info? 37).map (·.size) = some cs.size := by rw [hc17]; exact sizeNd
      have hzs : zeroNd.size = cs.size := by rw [hc17]; rfl
      obtain ⟨W6, hW6⟩ : ∃ W6, W6 = w5.alloc (.cells cs 37) := ⟨_, rfl⟩
      have HSET6 := Lib.hid ((setRow_alloc w5 zeroNd cs 37).trans hW6.symm)
      have HNew6 := Lib.hid (heap_alloc_new w5 (.cells zeroNd 37))
      have hE6 : Ext w5 W6 := by rw [hW6]; exact Ext.alloc _ _
      have hEw6 := hEw5.trans hE6
      have hT6 := hT5.ext hE6
      have hD6 := hD5.ext hE6
      have hA6 := hA5.ext hE6
      have hn6 := (hE6.block w.heap.size (Array.getElem?_eq_some_iff.1 hn5).1).trans hn5
      have HN6 := Lib.hid hn6
      have hhid : Hid (zeroNd.size = cs.size) := hzs
      unfold zeroNd at HSET6 HNew6
      unfold Box treeC at hbox
      unfold ndC at HN6
      have HC1 := Lib.hid hc1
      have H17 := Lib.hid hsz17
      clear hW6 hd hNd hKd hT5 hzs hc1 hc17 hsz17 CP hx4 hb5 HN4 hE6 hE5 hEw5 hn6 hn5 hD5 hA5 hT4 hD4 hA4 hEw4
      have bad : mget M pp.data.toList = none ∨ ee ≠ 0 → TreeTo S w bt (addM M n) (N + 1) (.int .i64 (addE M n)) (.returned (.int .i64 73)) W6 := fun h => by
        have e : addE M n = 73 := by
          unfold addE
          rw [if_neg (by rw [HR.out]; simp), if_neg (by unfold keyN; rw [HG.out]; simp), if_pos (HIFF.out.2 h)]
        have e2 : addM M n = M := by unfold addM; rw [if_neg (by rw [e]; decide)]
        rw [e, e2]
        exact treeTo_same HTW.out hEw6 (by omega) _
      have BAD := Lib.hid bad
      clear bad
      cases hg : mget M pp.data.toList with
      | none =>
        rw [hg] at hq
        have hq' : (Instr.lookup 64 (.map (some bn)) (.string pp) true).run Tryd.prog w5 = .ok (.tuple #[.agg cs, .bool false]) w5 := hq
        have HFIN := Lib.hid (BAD.out (.inl hg))
        clear hq hg hT6 hD6 hA6 hEw6
        go_wp2_with (refine wpList_store_row rfl 37 (.tmp 10) (.tmp 43) rfl w5.heap.size _ rfl rfl 37 _ HNew6.out H17.out hhid.out HC1.out ?_; rw [HSET6.out])
        go_ret
        exact HFIN.out
      | some y1 =>
        rw [hg] at hq
        have hq' : (Instr.lookup 64 (.map (some bn)) (.string pp) true).run Tryd.prog w5 = .ok (.tuple #[.agg cs, .bool true]) w5 := hq
        by_cases hee : ee = 0
        · subst hee
          have C3 := lay_any S W6 bt M N hT6 n da aa dc ac HR.out HG.out hN hD6 hA6
          have e : addE M n = 0 := by
            unfold addE
            rw [if_neg (by rw [HR.out]; simp), if_neg (by unfold keyN; rw [HG.out]; simp), if_neg (fun h => by
              rcases HIFF.out.1 h with h | h
              · rw [hg] at h; cases h
              · exact h rfl)]
          have e2 : addM M n = mput M (keyN n) n := by unfold addM; rw [if_pos e]
          have E1 := Lib.hid e
          have E2 := Lib.hid e2
          unfold ndC at C3
          have C3 := Lib.hid C3
          have hszw := hEw6.size
          clear hq hg hT6 hD6 hA6 e e2 BAD
          go_wp2_with (first | (refine wpList_store_row rfl 37 (.tmp 10) (.tmp 43) rfl w5.heap.size _ rfl rfl 37 _ HNew6.out H17.out hhid.out HC1.out ?_; rw [HSET6.out]) | (refine wpList_load_row rfl 37 (.tmp 3) rfl w.heap.size rfl 37 _ (0, 0) _ HN6.out Tryd.underlying37 rfl sizeNd ?_))
          refine C3.out.mono ?_
          rintro e w7 ⟨rfl, hT7, hM7⟩
          have hz7 := hM7.size
          have hb7 := HTW.out.bound
          have hfin : TreeTo S w bt (addM M n) (N + 1) (.int .i64 (addE M n)) (.returned (.int .i64 0)) w7 := by
            rw [E1.out, E2.out]
            exact ⟨rfl, hT7.keep (fun _ _ => rfl) (fun k hk => hk.imp id fun h => ⟨by omega, h.2⟩) (fun k hk => hk.elim (fun h => by have := hb7 k h; omega) (fun h => h.2)) (Nat.le_refl _), (Mod.of_ext hEw6).trans hM7⟩
          have HFIN := Lib.hid hfin
          clear C3 hT7 hM7 hEw6 hfin hb7
          go_wp2
          go_ret
          exact HFIN.out
        · have hne : (ee != 0) = true := by simpa using hee
          have HFIN := Lib.hid (BAD.out (.inr hee))
          clear hq hg hT6 hD6 hA6 hEw6 BAD hee
          go_wp2_with (refine wpList_store_row rfl 37 (.tmp 10) (.tmp 43) rfl w5.heap.size _ rfl rfl 37 _ HNew6.out H17.out hhid.out HC1.out ?_; rw [HSET6.out])
          go_ret
          exact HFIN.out
  · have hne : (rightN n != 0) = true := by simpa using hr
    have e : addE M n = rightN n := by unfold addE; rw [if_pos hr]
    have e2 : addM M n = M := by unfold addM; rw [if_neg (by rw [e]; exact hr)]
    have E1 := Lib.hid e
    have E2 := Lib.hid e2
    clear hr e e2
    go_enter Tryd.func23, Tryd.ntmps23
    go_wp2_with (refine wpList_load_row rfl 37 (.tmp 3) rfl w.heap.size rfl 37 _ (0, 0) _ HNW.out Tryd.underlying37 rfl sizeNd ?_)
    refine CR.out.mono ?_
    rintro e w3 ⟨rfl, hb3⟩
    rw [← HW2.out] at hb3
    have hfin : TreeTo S w bt (addM M n) (N + 1) (.int .i64 (addE M n)) (.returned (.int .i64 (rightN n))) w3 := by
      rw [E1.out, E2.out]
      exact treeTo_same HTW.out (he2.trans hb3) (by omega) _
    have HFIN := Lib.hid hfin
    clear hfin CR hb3 hT2 hD2 hA2 HN HNW HW2 hu2
    go_wp2
    go_ret
    exact HFIN.out
end Go.Proofs.YtamolbegmkngdaaDoor
namespace Go.Proofs.YtamolbegmkngdaaDoor
open Go.RowKit
set_option maxHeartbeats 2000000
set_option maxRecDepth 100000

theorem NodesAt.del {S : Nat → Prop} {w w' : World} {bn : Nat} {M : List (Key × Nd)} {N : Nat} (h : NodesAt S w bn M N) {k : Key} {m : List (Key × Value)} (hr : Rel2 (fun n v => NdS S w v n) M m)
    (hs : SMap Tryd.prog 9 w' bn (mdel m k)) (hT : w.mapTurned w' bn) : NodesAt S w' bn (mdel M k) N := by
  have hc : ∀ (b o : Nat) u, S b → w.cell? ⟨b, o, none⟩ = some u → w'.cell? ⟨b, o, none⟩ = some u := fun b o u _ hu => (Mod.turned (S := fun _ => True) hT trivial).cell hu
  exact ⟨⟨_, hs, (hr.mdel k).imp fun _ _ _ hx => hx.imp (fun _ h => h) hc⟩, h.ok.del k, Nat.le_trans (List.length_filter_le _ _) h.len⟩

theorem apart_key {K : List (Key × Nat)} (h : K.Pairwise fun x y => x.2 ≠ y.2) {k : Key} {b : Nat} (hm : (k, b) ∈ K) {x : Key × Nat} (hx : x ∈ K) (e : x.2 = b) : x.1 = k := by
  obtain ⟨i, hi, ei⟩ := List.getElem_of_mem hx
  obtain ⟨j, hj, ej⟩ := List.getElem_of_mem hm
  have hp := List.pairwise_iff_getElem.1 h
  have : i = j := by
    rcases Nat.lt_trichotomy i j with hlt | he | hlt
    · exact absurd (by rw [ei, ej]; exact e) (hp i j hi hj hlt)
    · exact he
    · exact absurd (by rw [ei, ej]; exact e.symm) (hp j i hj hi hlt)
  subst this
  rw [ei] at ej
  rw [ej]

theorem kidsV_mem {K : List (Key × Nat)} (h : MSorted (kidsV K)) {x : Key × Nat} (hx : x ∈ K) : mget K x.1 = some x.2 := by
  have := mget_of_mem h (k := x.1) (v := .map (some x.2)) (List.mem_map.2 ⟨x, hx, rfl⟩)
  rw [kidsV_get] at this
  cases hg : mget K x.1 with
  | none => rw [hg] at this; cases this
  | some b => rw [hg] at this; simpa using this

/-- A node without children is struck: its own map goes, its name goes out of its parent's. -/
theorem KidsAt.del {S : Nat → Prop} {w w1 w2 w3 : World} {bn bk : Nat} {K : List (Key × Nat)} {M : List (Key × Nd)} {N : Nat} (h : KidsAt S w bn bk K M N) (hM : MOk M) {n : Nd} (hg : mget M (keyN n) = some n) (hroot : n.path.size ≠ 1) (hno : kidsOf M n.path = [])
    {b : Nat} (hb : mget K (parentB n.path).data.toList = some b) (hne : bn ≠ bk)
    (hT1 : w.mapTurned w1 bn) (hT2 : w1.mapTurned w2 bk) (hs2 : SMap Tryd.prog 9 w2 bk (mdel (kidsV K) (keyN n)))
    (hT3 : w2.mapTurned w3 b) (hs3 : SMap Tryd.prog 9 w3 b (mdel (kidsOf M (parentB n.path)) (nameB n.path).data.toList)) :
    KidsAt S w3 bn bk (mdel K (keyN n)) (mdel M (keyN n)) N := by
  have hr := (hM.at hg).2
  have hmem := mget_some_mem hb
  have hE := h.each _ hmem
  have hc : childOf (parentB n.path) n = true := childOf_iff.2 ⟨hroot, rfl⟩
  have hoth : ∀ p, p ≠ parentB n.path → kidsOf (mdel M (keyN n)) p = kidsOf M p := fun p hp => by
    rw [kids_del hM hg p, if_neg (fun hc => hp (childOf_iff.1 hc).2.symm)]
  have hsort := SMap.sorted (Maps.string_keyed strT) h.map
  refine ⟨?_, Nat.le_trans (List.length_filter_le _ _) h.len, fun x hx => ?_, h.apart.filter _, fun p hp => ?_⟩
  · unfold kidsV
    rw [mdel_map (fun b => Value.map (some b))]
    exact hs2.keep (turned_other hT3 hE.2.2.1.symm)
  · obtain ⟨hx, hxk⟩ := mem_mdel.1 hx
    obtain ⟨h1, h2, h3, h4⟩ := h.each x hx
    refine ⟨h1, h2, h3, ?_⟩
    by_cases e : x.2 = b
    · have hk := apart_key h.apart hmem hx e
      rw [hk, key_bytes, kids_del hM hg, if_pos hc, e]
      exact hs3
    · rw [hoth _ (fun e1 => e (by
        have : x.1 = (parentB n.path).data.toList := by rw [← e1, key_back]
        have h5 := kidsV_mem hsort hx
        rw [this, hb] at h5
        exact (Option.some.inj h5).symm))]
      exact h4.keep ((turned_other hT3 e).trans ((turned_other hT2 h3).trans (turned_other hT1 h2)))
  · by_cases e : p = n.path
    · rw [e, kids_del hM hg]
      split
      · rw [hno]; rfl
      · exact hno
    · by_cases e2 : p = parentB n.path
      · exfalso
        refine mget_none hp ((parentB n.path).data.toList, b) (mem_mdel.2 ⟨hmem, fun e3 => ?_⟩) (by rw [e2])
        exact e (e2.trans (ba_ext e3))
      · rw [hoth p e2]
        refine h.rest p (mget_none_of fun x hx e3 => ?_)
        exact mget_none hp x (mem_mdel.2 ⟨hx, fun e4 => e (ba_ext (e3.symm.trans e4))⟩) e3

/-- What Remove answers, and what it makes of the nodes. -/
def remE (M : List (Key × Nd)) (s : ByteArray) : Int :=
  if ¬ (vpath s = true ∧ s.size ≠ 1) then 30 else if mget M s.data.toList = none then 70 else if (kidsOf M s).length ≠ 0 then 72 else 0
def remM (M : List (Key × Nd)) (s : ByteArray) : List (Key × Nd) := if remE M s = 0 then mdel M s.data.toList else M

theorem run_len_nil_map {P : Program} (w : World) (t k e ty : TypeId) (h : P.underlying t = some (.map k e)) : (Builtin.len_ #[t] ty #[.map none]).run P w = .ok (.int .i64 0) w := by
  simp [Builtin.len_, run_underlying h, goInt, Result.andThen]

/-- What Remove leaves: the tree in the blocks that it had. -/
def RemTo (S : Nat → Prop) (w : World) (bt : Nat) (M' : List (Key × Nd)) (N' : Nat) (v : Value) (e : Ending) (w' : World) : Prop :=
  e = .returned v ∧ TreeAt S w' bt M' N' ∧ Mod S w w'
theorem remTo_same {S : Nat → Prop} {w w' : World} {bt : Nat} {M : List (Key × Nd)} {N : Nat} (hT : TreeAt S w bt M N) (hE : Ext w w') (v : Value) : RemTo S w bt M N v (.returned v) w' := ⟨rfl, hT.ext hE, Mod.of_ext hE⟩

theorem rem_to (S : Nat → Prop) (w : World) (bt : Nat) (M : List (Key × Nd)) (N : Nat) (hT : TreeAt S w bt M N) (s : ByteArray) (hs : s.size ≤ 9223372036854775800) (hN : N < 4611686018427387904) :
    Calls Tryd.prog 22 #[.pointer (some ⟨bt, 0, none⟩), .string s] w (RemTo S w bt (remM M s) N (.int .i64 (remE M s))) := by
  have CP := parent_any s w hs
  have HTW := Lib.hid hT
  by_cases hvr : vpath s = true ∧ s.size ≠ 1
  · have hps : s.size ≤ maxLen := by
      have := (vpath_facts hvr.1).2.1
      unfold maxLen; omega
    have hsp := path_split hvr.1 hvr.2
    have hpp : (parentB s).size ≤ maxLen := by
      have := hsp.2.2.1
      omega
    have hns : (nameB s).size ≤ maxLen := by
      have h1 : (nameB s).size ≤ s.size := by unfold nameB; rw [ByteArray.size_extract]; omega
      omega
    rw [show parV s = .tuple #[.string (parentB s), .int .i64 0] by unfold parV; rw [if_pos hvr]] at CP
    have CN := fun w => name_any s w hs
    rw [show namV s = .tuple #[.string (nameB s), .int .i64 0] by unfold namV; rw [if_pos hvr.1]] at CN
    have HVR := Lib.hid hvr
    have CN := Lib.hid CN
    have CP := Lib.hid CP
    clear hvr hsp
    go_enter Tryd.func22, Tryd.ntmps22
    go_wp2_with fail
    refine CP.out.mono ?_
    rintro e w5 ⟨rfl, hb5⟩
    have hE5 : Ext w w5 := hb5
    have hT5 := hT.ext hE5
    have hok := hT.ok
    obtain ⟨bn, bk, K, hd, hNd, hKd⟩ := hT5
    have hT5 : TreeAt S w5 bt M N := ⟨bn, bk, K, hd, hNd, hKd⟩
    have hbox := TreeAt.box hd
    obtain ⟨cs, ⟨hc17, hc1⟩, hq, hq2, _⟩ := hNd.look s hps
    clear hq2
    have hsz17 : (Tryd.prog.info? 37).map (·.size) = some cs.size := by rw [hc17]; exact sizeNd
    have hzs : zeroNd.size = cs.size := by rw [hc17]; rfl
    obtain ⟨W6, hW6⟩ : ∃ W6, W6 = w5.alloc (.cells cs 37) := ⟨_, rfl⟩
    have HSET6 := Lib.hid ((setRow_alloc w5 zeroNd cs 37).trans hW6.symm)
    have HNew6 := Lib.hid (heap_alloc_new w5 (.cells zeroNd 37))
    have hE6 : Ext w5 W6 := by rw [hW6]; exact Ext.alloc _ _
    have hEw6 := hE5.trans hE6
    have hhid : Hid (zeroNd.size = cs.size) := hzs
    unfold zeroNd at HSET6 HNew6
    unfold Box treeC at hbox
    have HC1 := Lib.hid hc1
    have H17 := Lib.hid hsz17
    clear hW6 hzs hc1 hc17 hsz17 CP hb5
    cases hg : mget M s.data.toList with
    | none =>
      rw [hg] at hq
      have hq' : (Instr.lookup 64 (.map (some bn)) (.string s) true).run Tryd.prog w5 = .ok (.tuple #[.agg cs, .bool false]) w5 := hq
      have hfin : RemTo S w bt (remM M s) N (.int .i64 (remE M s)) (.returned (.int .i64 70)) W6 := by
        have e : remE M s = 70 := by unfold remE; rw [if_neg (fun h => h HVR.out), if_pos hg]
        have e2 : remM M s = M := by unfold remM; rw [if_neg (by rw [e]; decide)]
        rw [e, e2]
        exact remTo_same HTW.out hEw6 _
      have HFIN := Lib.hid hfin
      clear hq hg hfin hE5 hE6 hEw6 hT hT5 hd hNd hKd hok
      go_wp2_with (refine wpList_store_row rfl 37 (.tmp 7) (.tmp 27) rfl w5.heap.size _ rfl rfl 37 _ HNew6.out H17.out hhid.out HC1.out ?_; rw [HSET6.out])
      go_ret
      exact HFIN.out
    | some n =>
      rw [hg] at hq
      have hq' : (Instr.lookup 64 (.map (some bn)) (.string s) true).run Tryd.prog w5 = .ok (.tuple #[.agg cs, .bool true]) w5 := hq
      obtain ⟨hkey, hrn⟩ := hok.at hg
      obtain rfl : s = n.path := ba_ext hkey
      have hT6 := hT5.ext hE6
      clear hd hNd hKd hT5
      obtain ⟨bn', bk', K', hd, hNd, hKd⟩ := hT6
      have ebn : bn' = bn ∧ bk' = bk := by
        have h1 := hd.blk
        have h2 : W6.cell? ⟨bt, 0, none⟩ = some (.map (some bn)) := (hE6.cell (p := ⟨bt, 0, none⟩) (by have := hT.bound bt; have := hE5.size; obtain ⟨_, _, _, hd0, _⟩ := hT; have := hd0.bound _ hd0.st; show bt < _; omega)).trans (hbox 0)
        have h3 : W6.cell? ⟨bt, 1, none⟩ = some (.map (some bk)) := (hE6.cell (p := ⟨bt, 1, none⟩) (by have := hE5.size; obtain ⟨_, _, _, hd0, _⟩ := hT; have := hd0.bound _ hd0.st; show bt < _; omega)).trans (hbox 1)
        rw [cell_of_row _ _ _ _ _ _ h1] at h2 h3
        simp [treeC] at h2 h3
        exact ⟨h2, h3⟩
      obtain ⟨rfl, rfl⟩ := ebn
      have hbox6 := TreeAt.box hd
      have hl6 := SMap.look (e := 75) hKd.map strT Tryd.underlying65 (z := .map none) (by kernel_rfl) hps
      have hln : ∀ ty, (Builtin.len_ #[75] ty #[(mget (kidsV K') n.path.data.toList).getD (.map none)]).run Tryd.prog W6 = .ok (.int .i64 (kidsOf M n.path).length) W6 := fun ty => by
        rw [kidsV_get]
        cases hgk : mget K' n.path.data.toList with
        | none =>
          rw [hKd.rest n.path hgk]
          exact run_len_nil_map W6 _ _ _ ty Tryd.underlying75
        | some b' =>
          have h4 := (hKd.each _ (mget_some_mem hgk)).2.2.2
          rw [key_bytes] at h4
          exact h4.len Tryd.underlying75 ty
      generalize (mget (kidsV K') n.path.data.toList).getD (.map none) = kv at hl6 hln
      unfold Box treeC at hbox6
      have HG := Lib.hid hg
      clear hq hg hkey
      by_cases hk0 : (kidsOf M n.path).length = 0
      · have hno : kidsOf M n.path = [] := List.eq_nil_of_length_eq_zero hk0
        have hd0 : decide ((0 : Int) < ((kidsOf M n.path).length : Int)) = false := by rw [hk0]; decide
        have hpar : ∃ b, mget K' (parentB n.path).data.toList = some b := by
          cases hgp : mget K' (parentB n.path).data.toList with
          | some b => exact ⟨b, rfl⟩
          | none =>
            have h1 := hKd.rest _ hgp
            have h2 : (nameK n, Value.agg #[]) ∈ kidsOf M (parentB n.path) := mem_kids.2 ⟨_, mget_some_mem HG.out, childOf_iff.2 ⟨HVR.out.2, rfl⟩, rfl⟩
            rw [h1] at h2; simp at h2
        obtain ⟨b, hgb⟩ := hpar
        have hEb := hKd.each _ (mget_some_mem hgb)
        have HGB := Lib.hid hgb
        have HNO := Lib.hid hno
        have HKD := Lib.hid hKd
        have HND := Lib.hid hNd
        have HHD := Lib.hid hd
        have HE := Lib.hid hEw6
        have hz6 : decide ((0 : Int) < 0) = false := by decide
        rw [hk0] at hln
        clear hk0 hno hd0 hgb hd hNd hKd hEw6 hE5 hE6 hT hok
        go_wp2_with (refine wpList_store_row rfl 37 (.tmp 7) (.tmp 27) rfl w5.heap.size _ rfl rfl 37 _ HNew6.out H17.out hhid.out HC1.out ?_; rw [HSET6.out])
        refine (CN.out _).mono ?_
        rintro e w7 ⟨rfl, hb7⟩
        have hE7 : Ext W6 w7 := hb7
        have hd7 : Hd S w7 bt bn' bk' := HHD.out.keep (hE7.block _ (HHD.out.bound _ HHD.out.st)) (fun _ h => h) (fun k h => Nat.lt_of_lt_of_le (HHD.out.bound k h) hE7.size)
        have hN7 : NodesAt S w7 bn' M N := HND.out.keep (hE7.block _ (HHD.out.bound _ HHD.out.sn)) (fun _ h => h) (fun b o u hb hu => (hE7.cell (p := ⟨b, o, none⟩) (HHD.out.bound b hb)).trans hu) (Nat.le_refl _)
        have hK7 : KidsAt S w7 bn' bk' K' M N := HKD.out.keep (hE7.block _ (HHD.out.bound _ HHD.out.sk)) (fun _ h => h) (fun x hx => hE7.block _ (HHD.out.bound _ (HKD.out.each x hx).1)) (Nat.le_refl _)
        have hEw7 := HE.out.trans hE7
        clear CN HHD HND HKD HE hb7 hE7 HSET6 HNew6 H17 hhid HC1 hbox hbox6 hq' hl6 hln hz6
        obtain ⟨m7, hm7, hr7⟩ := hN7.ex
        have hx7 := TreeAt.box hd7
        have hst1 : ∀ w8 : World, w7.mapTurned w8 bn' → Box w8 bt (treeC bn' bk') ∧ SMap Tryd.prog 9 w8 bk' (kidsV K') := fun w8 ht8 =>
          ⟨fun j => cell_of_row _ _ _ _ _ _ ((Mod.turned (S := S) ht8 hd7.sn).cells hd7.blk), hK7.map.keep (turned_other ht8 hd7.ne.symm)⟩
        have hst2 : ∀ w8 w9 : World, w7.mapTurned w8 bn' → w8.mapTurned w9 bk' → SMap Tryd.prog 9 w9 bk' (mdel (kidsV K') n.path.data.toList) →
            Box w9 bt (treeC bn' bk') ∧ SMap Tryd.prog 9 w9 b (kidsOf M (parentB n.path)) ∧
            (Instr.lookup 65 (.map (some bk')) (.string (parentB n.path)) false).run Tryd.prog w9 = .ok (.map (some b)) w9 := fun w8 w9 ht8 ht9 hs9 => by
          refine ⟨fun j => cell_of_row _ _ _ _ _ _ (((Mod.turned (S := S) ht8 hd7.sn).trans (Mod.turned ht9 hd7.sk)).cells hd7.blk), ?_, ?_⟩
          · have h4 := hEb.2.2.2
            rw [key_bytes] at h4
            have h5 := (hK7.each _ (mget_some_mem HGB.out)).2.2.2
            rw [key_bytes] at h5
            exact h5.keep ((turned_other ht9 hEb.2.2.1).trans (turned_other ht8 hEb.2.1))
          · have h6 := SMap.look (e := 75) hs9 strT Tryd.underlying65 (z := .map none) (by kernel_rfl) hpp
            have hsrt := mdel_sorted (SMap.sorted (Maps.string_keyed strT) hK7.map) n.path.data.toList
            have hlt := (path_split HVR.out.1 HVR.out.2).2.2.1
            rw [mget_of_mem (v := .map (some b)) hsrt (mem_mdel.2 ⟨List.mem_map.2 ⟨_, mget_some_mem HGB.out, rfl⟩, fun e => by
              have := congrArg List.length e
              rw [size_list, size_list] at this
              omega⟩)] at h6
            exact h6
        have hfin : ∀ w8 w9 w10 : World, w7.mapTurned w8 bn' → SMap Tryd.prog 9 w8 bn' (mdel m7 n.path.data.toList) → w8.mapTurned w9 bk' → SMap Tryd.prog 9 w9 bk' (mdel (kidsV K') n.path.data.toList) →
            w9.mapTurned w10 b → SMap Tryd.prog 9 w10 b (mdel (kidsOf M (parentB n.path)) (nameB n.path).data.toList) →
            RemTo S w bt (remM M n.path) N (.int .i64 (remE M n.path)) (.returned (.int .i64 0)) w10 := fun w8 w9 w10 ht8 hs8 ht9 hs9 ht10 hs10 => by
          have e : remE M n.path = 0 := by
            unfold remE
            rw [if_neg (fun h => h HVR.out), if_neg (by rw [HG.out]; simp), if_neg (by rw [HNO.out]; simp)]
          have e2 : remM M n.path = mdel M n.path.data.toList := by unfold remM; rw [if_pos e]
          have hM : Mod S w7 w10 := ((Mod.turned ht8 hd7.sn).trans (Mod.turned ht9 hd7.sk)).trans (Mod.turned ht10 hEb.1)
          have hM9 : Mod S w8 w10 := (Mod.turned ht9 hd7.sk).trans (Mod.turned ht10 hEb.1)
          have hz10 : w10.heap.size = w7.heap.size := by rw [turned_size ht10, turned_size ht9, turned_size ht8]
          have hd10 : Hd S w10 bt bn' bk' := ⟨hM.cells hd7.blk, hd7.st, hd7.sn, hd7.sk, hd7.ne, fun k h => by rw [hz10]; exact hd7.bound k h⟩
          have hN8 : NodesAt S w8 bn' (mdel M n.path.data.toList) N := hN7.del hr7 hs8 ht8
          have hN10 : NodesAt S w10 bn' (mdel M n.path.data.toList) N := hN8.keep ((turned_other ht10 hEb.2.1.symm).trans (turned_other ht9 hd7.ne)) (fun _ h => h) (fun b o u _ hu => hM9.cell hu) (Nat.le_refl _)
          have hK10 := hK7.del hN7.ok HG.out HVR.out.2 HNO.out HGB.out hd7.ne ht8 ht9 hs9 ht10 hs10
          have hT10 : TreeAt S w10 bt (mdel M n.path.data.toList) N := ⟨bn', bk', _, hd10, hN10, hK10⟩
          rw [e, e2]
          exact ⟨rfl, hT10, (Mod.of_ext hEw7).trans hM⟩
        have H1 := Lib.hid hst1
        have H2 := Lib.hid hst2
        have H3 := Lib.hid hfin
        unfold Box treeC at hx7
        clear hst1 hst2 hfin hd7 hN7 hK7 hEw7 hEb hr7
        go_wp2_with (first | (refine wpList_del _ rfl (.tmp 47) (.tmp 48) 64 9 37 rfl strT Tryd.underlying64 bn' _ hm7 rfl n.path hps rfl ?_; intro w8 hs8 ht8; have hq8 := H1.out w8 ht8; have hx8 := hq8.1; have hm8 := hq8.2; unfold Box treeC at hx8; clear hq8 hx7 hm7) | (refine wpList_del _ rfl (.tmp 52) (.tmp 53) 65 9 75 rfl strT Tryd.underlying65 bk' _ hm8 rfl n.path hps rfl ?_; intro w9 hs9 ht9; have hq9 := H2.out w8 w9 ht8 ht9 hs9; have hx9 := hq9.1; have hm9 := hq9.2.1; have hl9 := hq9.2.2; unfold Box treeC at hx9; clear hq9 hx8 hm8) | (refine wpList_del _ rfl (.tmp 59) (.tmp 60) 75 9 76 rfl strT Tryd.underlying75 b _ hm9 rfl (nameB n.path) hns rfl ?_; intro w10 hs10 ht10))
        go_ret
        exact H3.out w8 w9 w10 ht8 hs8 ht9 hs9 ht10 hs10
      · have hpos : 0 < (kidsOf M n.path).length := by omega
        have hfin : RemTo S w bt (remM M n.path) N (.int .i64 (remE M n.path)) (.returned (.int .i64 72)) W6 := by
          have e : remE M n.path = 72 := by
            unfold remE
            rw [if_neg (fun h => h HVR.out), if_neg (by rw [HG.out]; simp), if_pos hk0]
          have e2 : remM M n.path = M := by unfold remM; rw [if_neg (by rw [e]; decide)]
          rw [e, e2]
          exact remTo_same HTW.out hEw6 _
        have HFIN := Lib.hid hfin
        clear hk0 hfin hE5 hE6 hEw6 hT hd hNd hKd hok
        go_wp2_with (refine wpList_store_row rfl 37 (.tmp 7) (.tmp 27) rfl w5.heap.size _ rfl rfl 37 _ HNew6.out H17.out hhid.out HC1.out ?_; rw [HSET6.out])
        go_ret
        exact HFIN.out
  · rw [show parV s = .tuple #[.string ⟨#[]⟩, .int .i64 30] by unfold parV; rw [if_neg hvr]] at CP
    have hfin : ∀ w3, Ext w w3 → RemTo S w bt (remM M s) N (.int .i64 (remE M s)) (.returned (.int .i64 30)) w3 := fun w3 hE => by
      have e : remE M s = 30 := by unfold remE; rw [if_pos hvr]
      have e2 : remM M s = M := by unfold remM; rw [if_neg (by rw [e]; decide)]
      rw [e, e2]
      exact remTo_same HTW.out hE _
    have HFIN := Lib.hid hfin
    have CP := Lib.hid CP
    clear hvr hfin hT
    go_enter Tryd.func22, Tryd.ntmps22
    go_wp2_with fail
    refine CP.out.mono ?_
    rintro e w3 ⟨rfl, hb3⟩
    clear CP
    go_wp2
    go_ret
    exact HFIN.out w3 hb3

theorem rem_any (S : Nat → Prop) (w : World) (bt : Nat) (M : List (Key × Nd)) (N : Nat) (hT : TreeAt S w bt M N) (s : ByteArray) (hs : s.size ≤ 9223372036854775800) (hN : N < 4611686018427387904) :
    Calls Tryd.prog 22 #[.pointer (some ⟨bt, 0, none⟩), .string s] w (TreeTo S w bt (remM M s) N (.int .i64 (remE M s))) :=
  (rem_to S w bt M N hT s hs hN).mono fun e w' ⟨h1, h2, h3⟩ =>
    ⟨h1, h2.keep (fun _ _ => rfl) (fun _ h => .inl h) (fun k hk => hk.elim (fun h => h2.bound k h) (fun h => h.2)) (Nat.le_refl _), h3⟩
end Go.Proofs.YtamolbegmkngdaaDoor
namespace Go.Proofs.YtamolbegmkngdaaDoor
open Go.RowKit Go.Maps Go.Sort Go.Shelf
set_option maxHeartbeats 2000000

theorem bytes_lt : ∀ (a b : List UInt8), bytesBefore a b = true ↔ a < b
  | [], [] => by simp [bytesBefore]
  | [], _ :: _ => by simp [bytesBefore]
  | _ :: _, [] => by simp [bytesBefore]
  | x :: a, y :: b => by
    simp only [bytesBefore, Bool.or_eq_true, Bool.and_eq_true, decide_eq_true_eq, beq_iff_eq, List.cons_lt_cons_iff, bytes_lt a b]

theorem sortedKeys {l ss : List (List UInt8)} (hs : l.Pairwise fun a b => bytesBefore a b = true) (hp : ss.Perm l) : ss.mergeSort (fun x y => decide (x ≤ y)) = l := by
  have h1 : (ss.mergeSort (fun x y => decide (x ≤ y))).Perm l := (List.mergeSort_perm ss _).trans hp
  have h2 : (ss.mergeSort (fun x y => decide (x ≤ y))).Pairwise (fun x y => x ≤ y) := by
    have := List.pairwise_mergeSort (le := fun x y : List UInt8 => decide (x ≤ y)) (fun a b c h1 h2 => by
      simp only [decide_eq_true_eq] at h1 h2 ⊢; exact List.le_trans h1 h2) (fun a b => by
      simp only [Bool.or_eq_true, decide_eq_true_eq]; exact List.le_total a b) ss
    exact this.imp fun h => by simpa using h
  have h3 : l.Pairwise (fun x y => x ≤ y) := hs.imp fun h => List.le_of_lt ((bytes_lt _ _).1 h)
  exact h1.eq_of_pairwise (fun a b _ _ h1 h2 => List.le_antisymm h1 h2) h2 h3
/-- A new slice that holds these texts. -/
def SortedOut (l : List Key) (w : World) (e : Ending) (w' : World) : Prop :=
  ∃ v, e = .returned v ∧ w'.ownsRow w.heap.size 9 1 v l.length (l.map encStr) ∧ (v = .slice none 0 0 ↔ l = []) ∧ Ext w w'

theorem sortsS (m : Nat) : AnyZ.SortsIn Tryd.prog Tryd.sortedS_ren Fence.wide m :=
  ⟨fun blk off cap ss W hH hblk hsz => callsIn_wide.2 (AnyM.slices_Sort_string Tryd.sortS blk off cap ss W hH hblk hsz),
   fun p cap W => callsIn_wide.2 (AnyM.slices_Sort_string_none Tryd.sortS p cap W)⟩

theorem keysN_any (mb : Option Nat) (W : World) : Calls Tryd.prog 66 #[.map mb] W fun e w' => e = .returned (.func (.func 85) #[] #[.pointer (some ⟨W.heap.size, 0, none⟩)]) ∧ w' = W.alloc (.cells #[.map mb] 64) :=
  (callsIn_wide (n := 5)).1 (AnyZ.keys_in Tryd.keysN Fence.wide 5 trivial rfl mb W)

theorem sortedN_own {H : Type} (b nn : Nat) (D0 : DataW H) (R : Value → Option (DataW H × List MemPlace)) (w : World) (hown : w.ownsMap Tryd.prog 9 R b nn D0) (hmax : Maps.size D0 ≤ maxLen) (hbytes : Maps.size D0 * 16 ≤ 140737488355328) :
    CallsIn Fence.wide 5 Tryd.prog 30 #[.func (.func 85) #[] #[.pointer (some ⟨w.heap.size, 0, none⟩)]] (w.alloc (.cells #[.map (some b)] 64)) fun e w' => ∃ (v : Value) (ss : List (List UInt8)), e = .returned v ∧ ss.Perm (strKeys D0) ∧
      w'.ownsRow (w.alloc (.cells #[.map (some b)] 64)).heap.size 9 1 v ss.length ((ss.mergeSort (fun x y => decide (x ≤ y))).map encStr) ∧ (v = .slice none 0 0 ↔ ss = []) ∧ Below (w.alloc (.cells #[.map (some b)] 64)).heap.size (w.alloc (.cells #[.map (some b)] 64)) w' := by
  have hbl := hown.lt
  have hseq : SeqGives Fence.wide 2 Tryd.prog 85 #[.pointer (some ⟨w.heap.size, 0, none⟩)] encStr (fun ss => ss.Perm (strKeys D0)) (Maps.size D0) (w.alloc (.cells #[.map (some b)] 64)) :=
    AnyZ.keys_gives (ρ := Tryd.keysN_ren) { Tryd.keysN with } Fence.wide _ trivial rfl (by omega) w.heap.size b nn D0 _ (by simp) (by simp) (by
      obtain ⟨es, clock, hb, Ft, hs, hD⟩ := hown
      exact ⟨es, clock, (Below.heap_alloc _ _ b hbl).trans hb, Ft, hs, hD⟩)
  exact AnyZ.sorted_in Tryd.sortedS Fence.wide 5 trivial trivial trivial trivial rfl (by omega) (sortsS _) (enters_of Tryd.func55 (by kernel_rfl) rfl) 85 #[.pointer (some ⟨w.heap.size, 0, none⟩)] trivial (enters_of Tryd.func85 (by kernel_rfl) rfl) _ _ hmax hbytes _ hseq

theorem sortedN_any (b : Nat) (m : List (Key × Value)) (w : World) (h : SMap Tryd.prog 9 w b m) (hl : m.length * 16 ≤ 140737488355328) :
    Calls Tryd.prog 30 #[.func (.func 85) #[] #[.pointer (some ⟨w.heap.size, 0, none⟩)]] (w.alloc (.cells #[.map (some b)] 64)) (SortedOut (m.map (·.1)) (w.alloc (.cells #[.map (some b)] 64))) := by
  have hsz : Maps.size (kvD m) = m.length := by simp [kvD, Maps.size]
  have hk : strKeys (kvD m) = m.map (·.1) := by simp [kvD, strKeys, strOf]
  have hs : (m.map (·.1)).Pairwise fun a b => bytesBefore a b = true := by rw [List.pairwise_map]; exact SMap.sorted (Maps.string_keyed strT) h
  refine ((callsIn_wide (n := 5)).1 (sortedN_own b _ (kvD m) Rv w h (by rw [hsz]; unfold maxLen; omega) (by rw [hsz]; exact hl))).mono fun e w' hq => ?_
  obtain ⟨v, ss, rfl, hp, hrow, hnil, hb⟩ := hq
  rw [hk] at hp
  rw [sortedKeys hs hp, hp.length_eq] at hrow
  exact ⟨v, rfl, hrow, hnil.trans ⟨fun e => by rw [e] at hp; exact hp.nil_eq.symm, fun e => by rw [e] at hp; exact hp.eq_nil⟩, hb⟩

theorem keysU_any (mb : Option Nat) (W : World) : Calls Tryd.prog 31 #[.map mb] W fun e w' => e = .returned (.func (.func 56) #[] #[.pointer (some ⟨W.heap.size, 0, none⟩)]) ∧ w' = W.alloc (.cells #[.map mb] 75) :=
  (callsIn_wide (n := 5)).1 (AnyZ.keys_in Tryd.keysU Fence.wide 5 trivial rfl mb W)

theorem sortedU_own {H : Type} (b nn : Nat) (D0 : DataW H) (R : Value → Option (DataW H × List MemPlace)) (w : World) (hown : w.ownsMap Tryd.prog 9 R b nn D0) (hmax : Maps.size D0 ≤ maxLen) (hbytes : Maps.size D0 * 16 ≤ 140737488355328) :
    CallsIn Fence.wide 5 Tryd.prog 30 #[.func (.func 56) #[] #[.pointer (some ⟨w.heap.size, 0, none⟩)]] (w.alloc (.cells #[.map (some b)] 75)) fun e w' => ∃ (v : Value) (ss : List (List UInt8)), e = .returned v ∧ ss.Perm (strKeys D0) ∧
      w'.ownsRow (w.alloc (.cells #[.map (some b)] 75)).heap.size 9 1 v ss.length ((ss.mergeSort (fun x y => decide (x ≤ y))).map encStr) ∧ (v = .slice none 0 0 ↔ ss = []) ∧ Below (w.alloc (.cells #[.map (some b)] 75)).heap.size (w.alloc (.cells #[.map (some b)] 75)) w' := by
  have hbl := hown.lt
  have hseq : SeqGives Fence.wide 2 Tryd.prog 56 #[.pointer (some ⟨w.heap.size, 0, none⟩)] encStr (fun ss => ss.Perm (strKeys D0)) (Maps.size D0) (w.alloc (.cells #[.map (some b)] 75)) :=
    AnyZ.keys_gives (ρ := Tryd.keysU_ren) { Tryd.keysU with } Fence.wide _ trivial rfl (by omega) w.heap.size b nn D0 _ (by simp) (by simp) (by
      obtain ⟨es, clock, hb, Ft, hs, hD⟩ := hown
      exact ⟨es, clock, (Below.heap_alloc _ _ b hbl).trans hb, Ft, hs, hD⟩)
  exact AnyZ.sorted_in Tryd.sortedS Fence.wide 5 trivial trivial trivial trivial rfl (by omega) (sortsS _) (enters_of Tryd.func55 (by kernel_rfl) rfl) 56 #[.pointer (some ⟨w.heap.size, 0, none⟩)] trivial (enters_of Tryd.func56 (by kernel_rfl) rfl) _ _ hmax hbytes _ hseq

theorem sortedU_any (b : Nat) (m : List (Key × Value)) (w : World) (h : SMap Tryd.prog 9 w b m) (hl : m.length * 16 ≤ 140737488355328) :
    Calls Tryd.prog 30 #[.func (.func 56) #[] #[.pointer (some ⟨w.heap.size, 0, none⟩)]] (w.alloc (.cells #[.map (some b)] 75)) (SortedOut (m.map (·.1)) (w.alloc (.cells #[.map (some b)] 75))) := by
  have hsz : Maps.size (kvD m) = m.length := by simp [kvD, Maps.size]
  have hk : strKeys (kvD m) = m.map (·.1) := by simp [kvD, strKeys, strOf]
  have hs : (m.map (·.1)).Pairwise fun a b => bytesBefore a b = true := by rw [List.pairwise_map]; exact SMap.sorted (Maps.string_keyed strT) h
  refine ((callsIn_wide (n := 5)).1 (sortedU_own b _ (kvD m) Rv w h (by rw [hsz]; unfold maxLen; omega) (by rw [hsz]; exact hl))).mono fun e w' hq => ?_
  obtain ⟨v, ss, rfl, hp, hrow, hnil, hb⟩ := hq
  rw [hk] at hp
  rw [sortedKeys hs hp, hp.length_eq] at hrow
  exact ⟨v, rfl, hrow, hnil.trans ⟨fun e => by rw [e] at hp; exact hp.nil_eq.symm, fun e => by rw [e] at hp; exact hp.eq_nil⟩, hb⟩

theorem sortedU_nil (w : World) : Calls Tryd.prog 30 #[.func (.func 56) #[] #[.pointer (some ⟨w.heap.size, 0, none⟩)]] (w.alloc (.cells #[.map none] 75)) (SortedOut [] (w.alloc (.cells #[.map none] 75))) := by
  have hseq : SeqGives Fence.wide 2 Tryd.prog 56 #[.pointer (some ⟨w.heap.size, 0, none⟩)] encStr (fun ss : List (List UInt8) => ss = []) 0 (w.alloc (.cells #[.map none] 75)) :=
    AnyZ.keys_gives_nil (ρ := Tryd.keysU_ren) { Tryd.keysU with } Fence.wide _ trivial rfl w.heap.size _ (by simp) (by simp)
  refine ((callsIn_wide (n := 5)).1 (AnyZ.sorted_in Tryd.sortedS Fence.wide 5 trivial trivial trivial trivial rfl (by omega) (sortsS _) (enters_of Tryd.func55 (by kernel_rfl) rfl) 56 #[.pointer (some ⟨w.heap.size, 0, none⟩)] trivial (enters_of Tryd.func56 (by kernel_rfl) rfl) _ 0 (Nat.zero_le _) (by omega) _ hseq)).mono fun e w' hq => ?_
  obtain ⟨v, ss, rfl, rfl, hrow, hnil, hb⟩ := hq
  rw [List.mergeSort_nil] at hrow
  exact ⟨v, rfl, hrow, hnil, hb⟩

theorem tsorted_any (S : Nat → Prop) (w : World) (bt : Nat) (M : List (Key × Nd)) (N : Nat) (hT : TreeAt S w bt M N) (hN : M.length * 16 ≤ 140737488355328) :
    Calls Tryd.prog 46 #[.pointer (some ⟨bt, 0, none⟩)] w (SortedOut (M.map (·.1)) w) := by
  obtain ⟨bn, bk, K, hd, hNd, hKd⟩ := hT
  obtain ⟨m, hm, hr⟩ := hNd.ex
  have hx := TreeAt.box hd
  have C1 := keysN_any (some bn) w
  have C2 := sortedN_any bn m w hm (by rw [← hr.length]; exact hN)
  have HK := Lib.hid hr.keys
  have C1 := Lib.hid C1
  have C2 := Lib.hid C2
  unfold Box treeC at hx
  clear hm hr hd hNd hKd
  go_enter Tryd.func46, Tryd.ntmps46
  go_wp2_with fail
  refine C1.out.mono ?_
  rintro e w1 ⟨rfl, rfl⟩
  clear C1
  go_wp2_with fail
  refine C2.out.mono ?_
  rintro e w2 ⟨v, rfl, hrow, hnil, hE⟩
  have hfin : SortedOut (M.map (·.1)) w (.returned v) w2 := by
    rw [HK.out]
    exact ⟨v, rfl, ownsRow_base_a hrow (by simp), hnil, (Ext.alloc w _).trans hE⟩
  have HFIN := Lib.hid hfin
  clear C2 hrow hnil hE hfin
  go_wp2
  go_ret
  exact HFIN.out
end Go.Proofs.YtamolbegmkngdaaDoor
