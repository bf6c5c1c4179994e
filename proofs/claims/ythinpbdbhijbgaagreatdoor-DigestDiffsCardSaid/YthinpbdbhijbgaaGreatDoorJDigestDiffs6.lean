/- The walk of Get. A slice of nodes, opened. The walk of Add. The walk of Remove. A tree is cut down from the last path on: what is left. The document's tree, plainly: a list of nodes in order; where a path stands in it. Plain laws: when two structs are equal, as the model has it. The walks of the reference's look whether two nodes are alike. The walk of the reference's Same at any two nodes. Plain law: where two trees part. No program in sight. The walk of stat.Of. -/
import Derived.Test.YthinpbdbhijbgaaGreatDoorJDigestDiffs5
import Derived.Test.YthinpbdbhijbgaaGreatDoorJDigestDiffs2
import Derived.Test.YthinpbdbhijbgaaGreatDoorJDigestDiffs3
namespace Go.Proofs.YthinpbdbhijbgaaGreatDoor
open Go.RowKit
set_option maxHeartbeats 2000000
set_option maxRecDepth 100000

theorem results_cell_row2 {P : Program} {fn : Func} {p q : Tmp} {ty : TypeId} (h : fn.results = #[.cell p ty, .tmp q]) (tmps : Array Value) (w : World) (g : Nat) (t : TypeId) (cs : Array Value) (fr : Nat × Nat) (d : TypeDesc) (v : Value)
    (hp : tmps.getD p undef = .pointer (some ⟨g, 0, none⟩)) (hq : tmps.getD q undef = v) (hg : w.heap[g]? = some (.cells cs t fr))
    (hu : P.underlying ty = some d) (hd : (match d with | .struct _ | .array _ _ => true | _ => false) = true) (hi : (P.info? ty).map (·.size) = some cs.size) :
    (results fn tmps).run P w = .ok (.tuple #[.agg cs, v]) w := by
  have hp' : tmps[p]?.getD undef = .pointer (some ⟨g, 0, none⟩) := by simpa using hp
  have hq' : tmps[q]?.getD undef = v := by simpa using hq
  simp [results, h, hp', hq', asAddr, run_loadVar_row w g t ty cs fr d hg hu hd hi]

theorem TreeAt.box {S : Nat → Prop} {w : World} {bt bn bk : Nat} (hd : Hd S w bt bn bk) : Box w bt (treeC bn bk) := fun j => cell_of_row _ _ _ _ _ _ hd.blk

def zeroN : Nd := ⟨⟨#[]⟩, [], [], 0, 0, 0, 0, 0, 0, 0, 0, 0, 0, 0, false, 0, 0⟩
theorem zeroN_fit : Fit zeroN := ⟨by simp [zeroN, ByteArray.size], by simp [zeroN], by simp [zeroN], fun x hx => by simp [zeroN] at hx⟩
theorem zeroN_nds (S : Nat → Prop) (w : World) : NdS S w (.agg zeroNd) zeroN := ⟨none, 0, none, 0, rfl, fun j u h => by simp [zeroN] at h, fun j u h => by simp [zeroN, acCs] at h⟩

theorem NodesAt.look' {S : Nat → Prop} {w : World} {bn : Nat} {M : List (Key × Nd)} {N : Nat} (h : NodesAt S w bn M N) (s : ByteArray) (hs : s.size ≤ maxLen) :
    ∃ v, NdS S w v ((mget M s.data.toList).getD zeroN) ∧ (Instr.lookup 120 (.map (some bn)) (.string s) true).run Tryz.prog w = .ok (.tuple #[v, .bool (mget M s.data.toList).isSome]) w ∧
      (Instr.lookup 120 (.map (some bn)) (.string s) false).run Tryz.prog w = .ok v w := by
  obtain ⟨mm, hm, hr⟩ := h.ex
  have q1 := SMap.look_ok (e := 44) hm strT Tryz.underlying120 (z := .agg zeroNd) (by kernel_rfl) hs
  have q2 := SMap.look (e := 44) hm strT Tryz.underlying120 (z := .agg zeroNd) (by kernel_rfl) hs
  rcases hr.get s.data.toList with ⟨h1, h2⟩ | ⟨y, v, h1, h2, h3⟩
  · rw [h2] at q1 q2
    rw [h1]
    exact ⟨.agg zeroNd, zeroN_nds S w, q1, q2⟩
  · rw [h2] at q1 q2
    rw [h1]
    exact ⟨v, h3, q1, q2⟩

theorem MOk.fit {M : List (Key × Nd)} (h : MOk M) (k : Key) : Fit ((mget M k).getD zeroN) := by
  cases hg : mget M k with
  | none => exact zeroN_fit
  | some n => exact (right_fit (h.at hg).2).1

def GetOut (M : List (Key × Nd)) (s : ByteArray) (w : World) (e : Ending) (w' : World) : Prop :=
  ∃ v, e = .returned (.tuple #[v, .bool (mget M s.data.toList).isSome]) ∧ NdS (fun b => w.heap.size ≤ b ∧ b < w'.heap.size) w' v ((mget M s.data.toList).getD zeroN) ∧ Ext w w'

theorem tget_any (S : Nat → Prop) (w : World) (bt : Nat) (M : List (Key × Nd)) (N : Nat) (hT : TreeAt S w bt M N) (s : ByteArray) (hs : s.size ≤ maxLen) : Calls Tryz.prog 54 #[.pointer (some ⟨bt, 0, none⟩), .string s] w (GetOut M s w) := by
  obtain ⟨W1, hW1⟩ : ∃ W1, W1 = w.alloc (.cells zeroNd 44) := ⟨_, rfl⟩
  have hE1 : Ext w W1 := by rw [hW1]; exact Ext.alloc _ _
  have hz1 : W1.heap.size = w.heap.size + 1 := by rw [hW1]; simp
  have hr1 : W1.heap[w.heap.size]? = some (.cells zeroNd 44 (0, 0)) := by rw [hW1]; exact heap_alloc_new w _
  have hT1 := hT.ext hE1
  have hok := hT.ok
  have hbnd := hT.bound
  obtain ⟨bn, bk, K, hd, hNd, hKd⟩ := hT1
  have hx := TreeAt.box hd
  obtain ⟨v, hv, hq, hq2⟩ := hNd.look' s hs
  clear hq2
  have hfit := hok.fit s.data.toList
  generalize hn : (mget M s.data.toList).getD zeroN = n at *
  obtain ⟨da, dc, aa, ac, rfl, hD, hA⟩ := hv
  obtain ⟨W2, hW2⟩ : ∃ W2, W2 = W1.alloc (.cells (ndC n (.slice da n.data.length dc) (.slice aa n.acl.length ac)) 44) := ⟨_, rfl⟩
  have hE2 : Ext W1 W2 := by rw [hW2]; exact Ext.alloc _ _
  have hz2 : W2.heap.size = W1.heap.size + 1 := by rw [hW2]; simp
  have hr2 := (hE2.block w.heap.size (by omega)).trans hr1
  have hb2 : W2.heap[W1.heap.size]? = some (.cells (ndC n (.slice da n.data.length dc) (.slice aa n.acl.length ac)) 44 (0, 0)) := by rw [hW2]; exact heap_alloc_new W1 _
  have hD2 : Cells W2.heap.size W2 da (n.data.map u8v) := (hD.cells hd.bound).ext hE2
  have hA2 : Cells W2.heap.size W2 aa (acCs n.acl) := (hA.cells hd.bound).ext hE2
  have C := sclone_nd n da aa dc ac W2 hfit hD2 hA2
  have HSET := Lib.hid ((setRow_alloc W1 zeroNd (ndC n (.slice da n.data.length dc) (.slice aa n.acl.length ac)) 44).trans hW2.symm)
  have HNew := Lib.hid (heap_alloc_new W1 (.cells zeroNd 44))
  rw [hz1] at hb2
  have HB2 := Lib.hid hb2
  have HR2 := Lib.hid hr2
  have HW1 := Lib.hid hW1
  have HN := Lib.hid hn
  unfold ndC at HSET HB2 C hq
  unfold zeroNd at HSET HNew HW1 HR2
  unfold Box treeC at hx
  have C := Lib.hid C
  have hx' := hx
  have hq' := hq
  have HS' := HSET.out
  rw [HW1.out] at hx' hq' HS'
  rw [World.size_alloc] at HS'
  have HS2 := Lib.hid HS'
  have HNew' := HNew.out
  rw [HW1.out, World.size_alloc] at HNew'
  have HN2 := Lib.hid HNew'
  clear HSET HNew HNew' HS' hx hq
  clear hW1 hr1 hd hNd hKd hD hA hW2 hb2 hr2 hD2 hA2 hT hn hok hbnd hfit
  go_enter Tryz.func54, Tryz.ntmps54
  go_wp2_with (first | (refine wpList_store_row rfl 44 (.tmp 6) (.tmp 18) rfl (w.heap.size + 1) _ rfl rfl 44 _ HN2.out sizeNd rfl (cells_node n da aa _ _ dc ac) ?_; rw [HS2.out]) | (refine wpList_load_row rfl 44 (.tmp 6) rfl (w.heap.size + 1) rfl 44 _ (0, 0) _ HB2.out Tryz.underlying44 rfl sizeNd ?_))
  refine C.out.mono ?_
  rintro e w3 ⟨v3, rfl, hN3, hb3⟩
  have hE3 : Ext W2 w3 := hb3
  obtain ⟨va, vc, vb, vd, rfl, h1, h2⟩ := hN3
  have HR3 := Lib.hid ((hE3.block w.heap.size (by omega)).trans HR2.out)
  have hz3 := hE3.size
  have hEw : Ext w w3 := (hE1.trans hE2).trans hE3
  clear C HB2 HN2 HS2 hx' hq' hb3
  go_wp2_with (refine wpList_store_row rfl 44 (.tmp 4) (.tmp 21) rfl w.heap.size _ rfl rfl 44 _ HR3.out sizeNd rfl (cells_node n va vb _ _ vc vd) ?_)
  obtain ⟨cs, hcs⟩ : ∃ cs, cs = ndC n (.slice va n.data.length vc) (.slice vb n.acl.length vd) := ⟨_, rfl⟩
  have hR4 := setRow_heap w3 w.heap.size _ cs 44 (0, 0) HR3.out
  have hs4 : (w3.setRow w.heap.size cs).heap.size = w3.heap.size := by simp [World.setRow]
  have hb4 : Ext w (w3.setRow w.heap.size cs) := hEw.trans' ⟨rfl, rfl, rfl, by rw [hs4]; exact Nat.le_refl _, fun k hk => setRow_other _ _ _ _ (by omega)⟩
  have hk : ∀ (b o : Nat) u, (W2.heap.size ≤ b ∧ b < w3.heap.size) → w3.cell? ⟨b, o, none⟩ = some u → (w3.setRow w.heap.size cs).cell? ⟨b, o, none⟩ = some u := fun b o u hb hu =>
    (World.cell?_of_block (setRow_other _ _ _ _ (show b ≠ w.heap.size by have := hb.1; omega))).trans hu
  have c1 := h1.imp (S' := fun b => w.heap.size ≤ b ∧ b < (w3.setRow w.heap.size cs).heap.size) (fun b hb => ⟨by omega, by omega⟩) hk
  have c2 := h2.imp (S' := fun b => w.heap.size ≤ b ∧ b < (w3.setRow w.heap.size cs).heap.size) (fun b hb => ⟨by omega, by omega⟩) hk
  have hsz17 : (Tryz.prog.info? 44).map (·.size) = some cs.size := by rw [hcs]; exact sizeNd
  have hfin : GetOut M s w (.returned (.tuple #[.agg cs, .bool (mget M s.data.toList).isSome])) (w3.setRow w.heap.size cs) :=
    ⟨_, rfl, by rw [HN.out]; exact ⟨va, vc, vb, vd, by rw [hcs], c1, c2⟩, hb4⟩
  rw [hcs] at hfin hR4 hsz17
  refine bodyPost_ret (v := .tuple #[.agg (ndC n (.slice va n.data.length vc) (.slice vb n.acl.length vd)), .bool (mget M s.data.toList).isSome]) ?_ rfl hfin
  exact results_cell_row2 (p := 4) (q := 5) (ty := 44) rfl _ _ w.heap.size 44 _ (0, 0) _ _ rfl rfl hR4 Tryz.underlying44 rfl hsz17
end Go.Proofs.YthinpbdbhijbgaaGreatDoor
namespace Go.Proofs.YthinpbdbhijbgaaGreatDoor
open Go.ChangeShapes Go.WideShapes Go.ChangeAt Go.RowKit Go.Deep
set_option maxHeartbeats 2000000
set_option maxRecDepth 100000

theorem Tryz.bytes_node : Tryz.prog.bytesOf 44 = 168 := by kernel_rfl

instance : Inhabited Nd := ⟨zeroN⟩

section
variable {H : Type} {enc : TypeId × Value → H} {w : World} {fuel : Nat}

/-- A slice of nodes, opened. -/
theorem open_nodes_cap {v : Value} {x : DataW H × List MemPlace} (h : DataW.trod enc Tryz.prog w 0 (fun _ => true) true fuel 50 [v] = some x) (hz : Light 50 x.1) :
    ∃ (l : List Nd) (a : Option Addr) (cap : Nat), v = .slice a l.length cap ∧ l.length * 168 ≤ 140737488355328 ∧ (∀ n ∈ l, Fit n) ∧ NdsAt w.heap.size w a l ∧ l.length ≤ cap := by
  rcases open_slice Tryz.underlying50 h with ⟨hcs, rfl⟩ | ⟨a, len, cap, m, n, D, Pl, hcs, _, hl, hm, hmm, rfl, hx⟩
  · simp only [List.cons.injEq, and_true] at hcs
    subst hcs
    exact ⟨[], none, 0, rfl, by simp, by simp, fun i n h => (by simp at h), by simp⟩
  · simp only [List.cons.injEq, and_true] at hcs
    subst hcs
    simp only [if_true] at hmm
    subst hmm
    have hw := light_len Tryz.underlying50 hz
    rw [Tryz.bytes_node] at hw
    simp only [List.length_map, List.length_range] at hw
    obtain ⟨X, hX⟩ := choose_lt (n := len) (p := fun i (n : Nd) => ∃ v, NdV w.heap.size w v n ∧ (∀ r u, v.cells[r]? = some u → w.cell? ((a.add (i * 17)).add r) = some u) ∧ Fit n ∧ v.cells[0]? ≠ none) fun i hi => by
      obtain ⟨cs', h1, h2⟩ := hx i (by omega)
      obtain ⟨n, da, aa, dc, ac, rfl, hf, hD, hA⟩ := open_node h2 (light_elem Tryz.underlying50 hz (List.mem_map.2 ⟨i, List.mem_range.2 hi, rfl⟩))
      rw [Tryz.cells_node] at h1
      obtain ⟨_, _, h3⟩ := World.cells?_some h1
      refine ⟨n, _, ⟨da, dc, aa, ac, rfl, hD, hA⟩, fun r u hr => ?_, hf, fun h => by cases h⟩
      have hr' : (ndC n (.slice da n.data.length dc) (.slice aa n.acl.length ac))[r]? = some u := hr
      rw [h3 r (by have := (Array.getElem?_eq_some_iff.1 hr').1; simpa [ndC] using this)]
      simpa using hr'
    refine ⟨(List.range len).map X, some a, m, by simp, by simp; omega, fun x hx' => ?_, fun j n hj => ?_, by simp; omega⟩
    · obtain ⟨i, hi, rfl⟩ := List.mem_map.1 hx'
      obtain ⟨_, _, _, h, _⟩ := hX i (List.mem_range.1 hi)
      exact h
    · simp only [List.getElem?_map] at hj
      by_cases hi : j < len
      · rw [List.getElem?_range hi] at hj
        simp only [Option.map_some, Option.some.injEq] at hj
        subst hj
        obtain ⟨v, hv, hc, _, _⟩ := hX j hi
        obtain ⟨_, _, hc00, _, h0⟩ := hX 0 (by omega)
        obtain ⟨u0, hu0⟩ := Option.ne_none_iff_exists'.1 h0
        have hc0 := hc00 0 _ hu0
        have hsp := World.cell?_spot hc0
        have hlt := World.block_lt_of_cell? _ _ hc0
        obtain ⟨b, off, sp⟩ := a
        obtain rfl : sp = none := by simpa [Addr.add] using hsp
        refine ⟨b, off, v, rfl, by simpa [Addr.add] using hlt, hv, fun r u hr => ?_⟩
        have := hc r u hr
        rw [add_plain, add_plain] at this
        rw [← this]
      · rw [List.getElem?_eq_none (by simp; omega)] at hj
        simp at hj
theorem open_nodes {v : Value} {x : DataW H × List MemPlace} (h : DataW.trod enc Tryz.prog w 0 (fun _ => true) true fuel 50 [v] = some x) (hz : Light 50 x.1) :
    ∃ (l : List Nd) (a : Option Addr) (cap : Nat), v = .slice a l.length cap ∧ l.length * 168 ≤ 140737488355328 ∧ (∀ n ∈ l, Fit n) ∧ NdsAt w.heap.size w a l := by
  obtain ⟨l, a, c, h1, h2, h3, h4, _⟩ := open_nodes_cap h hz
  exact ⟨l, a, c, h1, h2, h3, h4⟩
end
end Go.Proofs.YthinpbdbhijbgaaGreatDoor
namespace Go.Proofs.YthinpbdbhijbgaaGreatDoor
open Go.RowKit
set_option maxHeartbeats 2000000
set_option maxRecDepth 100000

end Go.Proofs.YthinpbdbhijbgaaGreatDoor
namespace Go.Proofs.YthinpbdbhijbgaaGreatDoor
open Go.RowKit
set_option maxHeartbeats 2000000
set_option maxRecDepth 100000

theorem NodesAt.del {S : Nat → Prop} {w w' : World} {bn : Nat} {M : List (Key × Nd)} {N : Nat} (h : NodesAt S w bn M N) {k : Key} {m : List (Key × Value)} (hr : Rel2 (fun n v => NdS S w v n) M m)
    (hs : SMap Tryz.prog 9 w' bn (mdel m k)) (hT : w.mapTurned w' bn) : NodesAt S w' bn (mdel M k) N := by
  have hc : ∀ (b o : Nat) u, S b → w.cell? ⟨b, o, none⟩ = some u → w'.cell? ⟨b, o, none⟩ = some u := fun b o u _ hu => (Mod.turned (S := fun _ => True) hT trivial).cell hu
  exact ⟨⟨_, hs, (hr.mdel k).imp fun _ _ _ hx => hx.imp (fun _ h => h) hc⟩, h.ok.del k, Nat.le_trans (List.length_filter_le _ _) h.len⟩

theorem apart_key {K : List (Key × Nat)} (h : K.Pairwise fun x y => x.2 ≠ y.2) {k : Key} {b : Nat} (hm : (k, b) ∈ K) {x : Key × Nat} (hx : x ∈ K) (e : x.2 = b) : x.1 = k := by
  obtain ⟨i, hi, ei⟩ := List.getElem_of_mem hx
  obtain ⟨j, hj, ej⟩ := List.getElem_of_mem hm
  have hp := List.pairwise_iff_getElem.1 h
  have : i = j := by
    rcases Nat.lt_trichotomy i j with hlt | he | hlt
    · exact absurd (by rw [ei, ej]; exact e) (hp i j hi hj hlt)
    · exact he
    · exact absurd (by rw [ei, ej]; exact e.symm) (hp j i hj hi hlt)
  subst this
  rw [ei] at ej
  rw [ej]

theorem kidsV_mem {K : List (Key × Nat)} (h : MSorted (kidsV K)) {x : Key × Nat} (hx : x ∈ K) : mget K x.1 = some x.2 := by
  have := mget_of_mem h (k := x.1) (v := .map (some x.2)) (List.mem_map.2 ⟨x, hx, rfl⟩)
  rw [kidsV_get] at this
  cases hg : mget K x.1 with
  | none => rw [hg] at this; cases this
  | some b => rw [hg] at this; simpa using this

/-- A node without children is struck: its own map goes, its name goes out of its parent's. -/
theorem KidsAt.del {S : Nat → Prop} {w w1 w2 w3 : World} {bn bk : Nat} {K : List (Key × Nat)} {M : List (Key × Nd)} {N : Nat} (h : KidsAt S w bn bk K M N) (hM : MOk M) {n : Nd} (hg : mget M (keyN n) = some n) (hroot : n.path.size ≠ 1) (hno : kidsOf M n.path = [])
    {b : Nat} (hb : mget K (parentB n.path).data.toList = some b) (hne : bn ≠ bk)
    (hT1 : w.mapTurned w1 bn) (hT2 : w1.mapTurned w2 bk) (hs2 : SMap Tryz.prog 9 w2 bk (mdel (kidsV K) (keyN n)))
    (hT3 : w2.mapTurned w3 b) (hs3 : SMap Tryz.prog 9 w3 b (mdel (kidsOf M (parentB n.path)) (nameB n.path).data.toList)) :
    KidsAt S w3 bn bk (mdel K (keyN n)) (mdel M (keyN n)) N := by
  have hr := (hM.at hg).2
  have hmem := mget_some_mem hb
  have hE := h.each _ hmem
  have hc : childOf (parentB n.path) n = true := childOf_iff.2 ⟨hroot, rfl⟩
  have hoth : ∀ p, p ≠ parentB n.path → kidsOf (mdel M (keyN n)) p = kidsOf M p := fun p hp => by
    rw [kids_del hM hg p, if_neg (fun hc => hp (childOf_iff.1 hc).2.symm)]
  have hsort := SMap.sorted (Maps.string_keyed strT) h.map
  refine ⟨?_, Nat.le_trans (List.length_filter_le _ _) h.len, fun x hx => ?_, h.apart.filter _, fun p hp => ?_⟩
  · unfold kidsV
    rw [mdel_map (fun b => Value.map (some b))]
    exact hs2.keep (turned_other hT3 hE.2.2.1.symm)
  · obtain ⟨hx, hxk⟩ := mem_mdel.1 hx
    obtain ⟨h1, h2, h3, h4⟩ := h.each x hx
    refine ⟨h1, h2, h3, ?_⟩
    by_cases e : x.2 = b
    · have hk := apart_key h.apart hmem hx e
      rw [hk, key_bytes, kids_del hM hg, if_pos hc, e]
      exact hs3
    · rw [hoth _ (fun e1 => e (by
        have : x.1 = (parentB n.path).data.toList := by rw [← e1, key_back]
        have h5 := kidsV_mem hsort hx
        rw [this, hb] at h5
        exact (Option.some.inj h5).symm))]
      exact h4.keep ((turned_other hT3 e).trans ((turned_other hT2 h3).trans (turned_other hT1 h2)))
  · by_cases e : p = n.path
    · rw [e, kids_del hM hg]
      split
      · rw [hno]; rfl
      · exact hno
    · by_cases e2 : p = parentB n.path
      · exfalso
        refine mget_none hp ((parentB n.path).data.toList, b) (mem_mdel.2 ⟨hmem, fun e3 => ?_⟩) (by rw [e2])
        exact e (e2.trans (ba_ext e3))
      · rw [hoth p e2]
        refine h.rest p (mget_none_of fun x hx e3 => ?_)
        exact mget_none hp x (mem_mdel.2 ⟨hx, fun e4 => e (ba_ext (e3.symm.trans e4))⟩) e3

end Go.Proofs.YthinpbdbhijbgaaGreatDoor
namespace Go.Proofs.YthinpbdbhijbgaaGreatDoor
open Go.RowKit
set_option maxHeartbeats 1000000

theorem before_asymm : ∀ {a b : List UInt8}, bytesBefore a b = true → bytesBefore b a = true → False
  | [], [], h, _ => by simp [bytesBefore] at h
  | [], _ :: _, _, h => by simp [bytesBefore] at h
  | _ :: _, [], h, _ => by simp [bytesBefore] at h
  | x :: a, y :: b, h, k => by
    simp only [bytesBefore, Bool.or_eq_true, Bool.and_eq_true, decide_eq_true_eq, beq_iff_eq] at h k
    rcases h with h | ⟨rfl, h⟩
    · rcases k with k | ⟨rfl, k⟩
      · exact absurd h (UInt8.lt_asymm k)
      · exact absurd h (UInt8.lt_irrefl _)
    · rcases k with k | ⟨_, k⟩
      · exact absurd k (UInt8.lt_irrefl _)
      · exact before_asymm h k

theorem MOk.take {M : List (Key × Nd)} (h : MOk M) (m : Nat) : MOk (M.take m) :=
  ⟨List.Pairwise.sublist (List.take_sublist m M) h.sorted, fun x hx => h.key x (List.mem_of_mem_take hx), fun x hx => h.right x (List.mem_of_mem_take hx)⟩

end Go.Proofs.YthinpbdbhijbgaaGreatDoor
namespace Go.Proofs.YthinpbdbhijbgaaGreatDoor
open Go.RowKit
set_option maxHeartbeats 1000000

/-- Two texts, byte by byte. -/
def ordL : List UInt8 → List UInt8 → Int
  | [], [] => 0
  | [], _ :: _ => -1
  | _ :: _, [] => 1
  | x :: a, y :: b => if x.toNat < y.toNat then -1 else if y.toNat < x.toNat then 1 else ordL a b
theorem ordL_eq : ∀ a b : List UInt8, ordL a b = if a = b then 0 else if bytesBefore a b = true then -1 else 1
  | [], [] => by simp [ordL]
  | [], y :: b => by simp [ordL, bytesBefore]
  | x :: a, [] => by simp [ordL, bytesBefore]
  | x :: a, y :: b => by
    simp only [ordL, ordL_eq a b, bytesBefore, Bool.or_eq_true, decide_eq_true_eq, Bool.and_eq_true, beq_iff_eq, List.cons.injEq, UInt8.lt_iff_toNat_lt]
    by_cases h1 : x.toNat < y.toNat
    · have hne : x ≠ y := fun e => by rw [e] at h1; omega
      rw [if_pos h1, if_neg (fun h => hne h.1), if_pos (.inl h1)]
    · by_cases h2 : y.toNat < x.toNat
      · have hne : x ≠ y := fun e => by rw [e] at h2; omega
        rw [if_neg h1, if_pos h2, if_neg (fun h => hne h.1), if_neg (fun h => h.elim h1 fun h => hne h.1)]
      · have he : x = y := UInt8.toNat_inj.1 (by omega)
        subst he
        rw [if_neg h1, if_neg h2]
        by_cases h3 : a = b
        · rw [if_pos h3, if_pos ⟨rfl, h3⟩]
        · have e1 : ¬ (x = x ∧ a = b) := fun h => h3 h.2
          rw [if_neg h3, if_neg e1]
          by_cases h4 : bytesBefore a b = true
          · rw [if_pos h4, if_pos (.inr ⟨rfl, h4⟩)]
          · have e2 : ¬ (x.toNat < x.toNat ∨ x = x ∧ bytesBefore a b = true) := fun h => h.elim h1 fun h => h4 h.2
            rw [if_neg h4, if_neg e2]

/-- The nodes alone. -/
def nds (M : List (Key × Nd)) : List Nd := M.map (·.2)
theorem nds_length (M : List (Key × Nd)) : (nds M).length = M.length := List.length_map _
/-- The place of a path; is it there? -/
def rfind : List Nd → ByteArray → Nat × Bool
  | [], _ => (0, false)
  | n :: r, s => if ordL n.path.data.toList s.data.toList = 0 then (0, true) else if 0 < ordL n.path.data.toList s.data.toList then (0, false) else ((rfind r s).1 + 1, (rfind r s).2)
theorem rfind_le : ∀ (L : List Nd) (s : ByteArray), (rfind L s).1 ≤ L.length
  | [], _ => Nat.zero_le _
  | n :: r, s => by
    have := rfind_le r s
    unfold rfind
    split
    · exact Nat.zero_le _
    split
    · exact Nat.zero_le _
    · simp only [List.length_cons]; omega
theorem rfind_there : ∀ {M : List (Key × Nd)}, MSorted M → (∀ x ∈ M, x.1 = keyN x.2) → ∀ s : ByteArray, (rfind (nds M) s).2 = (mget M s.data.toList).isSome
  | [], _, _, _ => rfl
  | y :: r, hs, hk, s => by
    obtain ⟨h1, h2⟩ := List.pairwise_cons.1 hs
    have ih := rfind_there h2 (fun x hx => hk x (List.mem_cons_of_mem _ hx)) s
    have hy : y.1 = y.2.path.data.toList := hk y (List.mem_cons_self ..)
    show (rfind (y.2 :: nds r) s).2 = _
    unfold rfind
    rw [ordL_eq, ← hy]
    by_cases e : y.1 = s.data.toList
    · rw [if_pos e, if_pos rfl]
      have : mget (y :: r) s.data.toList = some y.2 := mget_of_mem hs (by rw [← e]; exact List.mem_cons_self ..)
      rw [this]; rfl
    · have hg : mget (y :: r) s.data.toList = mget r s.data.toList := by
        unfold mget
        rw [List.find?_cons_of_neg (by simpa using e)]
      rw [if_neg e, hg]
      by_cases hb : bytesBefore y.1 s.data.toList = true
      · rw [if_pos hb, if_neg (by decide), if_neg (by decide)]
        exact ih
      · rw [if_neg hb, if_neg (by decide), if_pos (by decide)]
        have hsy : bytesBefore s.data.toList y.1 = true := by
          rcases WideAt.bytes_total _ _ e with h | h
          · exact absurd h hb
          · exact h
        have : mget r s.data.toList = none := mget_none_of fun x hx e' => by
          have := h1 x hx
          rw [e'] at this
          exact before_asymm this hsy
        rw [this]; rfl

theorem mdel_none {M : List (Key × Nd)} {k : Key} (h : ∀ x ∈ M, x.1 ≠ k) : mdel M k = M := by
  unfold mdel
  exact List.filter_eq_self.2 fun x hx => by simpa using h x hx
theorem rfind_ins' : ∀ {M : List (Key × Nd)}, (∀ x ∈ M, x.1 = keyN x.2) → ∀ n : Nd, (∀ x ∈ M, x.1 ≠ keyN n) → nds (mins (keyN n, n) M) = (nds M).take (rfind (nds M) n.path).1 ++ n :: (nds M).drop (rfind (nds M) n.path).1
  | [], _, _, _ => rfl
  | y :: r, hk, n, hn => by
    have ih := rfind_ins' (fun x hx => hk x (List.mem_cons_of_mem _ hx)) n (fun x hx => hn x (List.mem_cons_of_mem _ hx))
    have hy : y.1 = y.2.path.data.toList := hk y (List.mem_cons_self ..)
    have he : ¬ y.1 = n.path.data.toList := hn y (List.mem_cons_self ..)
    show nds (mins (keyN n, n) (y :: r)) = (y.2 :: nds r).take (rfind (y.2 :: nds r) n.path).1 ++ n :: (y.2 :: nds r).drop (rfind (y.2 :: nds r) n.path).1
    unfold rfind mins
    rw [ordL_eq, ← hy, if_neg he]
    by_cases hb : bytesBefore y.1 n.path.data.toList = true
    · have hnb : ¬ bytesBefore (keyN n, n).1 y.1 = true := fun h => before_asymm h hb
      rw [if_pos hb, if_neg hnb, if_neg (show ¬ ((-1 : Int) = 0) by decide), if_neg (show ¬ ((0 : Int) < -1) by decide)]
      simp only [List.take_succ_cons, List.drop_succ_cons, List.cons_append]
      rw [← ih]; rfl
    · have hnb : bytesBefore (keyN n, n).1 y.1 = true := by
        rcases WideAt.bytes_total _ _ he with h | h
        · exact absurd h hb
        · exact h
      rw [if_neg hb, if_pos hnb, if_neg (show ¬ ((1 : Int) = 0) by decide), if_pos (show (0 : Int) < 1 by decide)]
      rfl
theorem rfind_ins {M : List (Key × Nd)} (hM : MOk M) (n : Nd) (hn : mget M (keyN n) = none) : nds (mput M (keyN n) n) = (nds M).take (rfind (nds M) n.path).1 ++ n :: (nds M).drop (rfind (nds M) n.path).1 := by
  have h := mget_none hn
  unfold mput
  rw [mdel_none h]
  exact rfind_ins' hM.key n h
end Go.Proofs.YthinpbdbhijbgaaGreatDoor
namespace Go.Proofs.YthinpbdbhijbgaaGreatDoor
open Go.RowKit
set_option maxHeartbeats 400000

theorem fields_of {t : TypeId} {fs : Array Field} (h : Tryz.prog.underlying t = some (.struct fs)) : Tryz.prog.fieldsOf t = fs := by
  unfold Program.fieldsOf; rw [h]
theorem eq_agg (w : World) (d : Nat) (t : TypeId) (fs : Array Field) (xs ys : Array Value) (h : Tryz.prog.underlying t = some (.struct fs)) (hp : Tryz.prog.stoodInHeld t = false) :
    (Op.equalIn (d + 1) t (.agg xs) (.agg ys)).run Tryz.prog w = (Op.eqFields d xs ys fs.toList).run Tryz.prog w := by
  rw [run_equalIn_agg w d t xs ys (by rw [fields_of h]; exact h) hp, fields_of h]

def eqAc (x y : Ac) : Bool := x.perms == y.perms && (x.scheme.toList == y.scheme.toList && x.id.toList == y.id.toList)
def acV (x : Ac) : Value := .agg #[.int .i32 x.perms, .string x.scheme, .string x.id]
theorem eq_ac (w : World) (d : Nat) (x y : Ac) : (Op.equalIn (d + 3) 129 (acV x) (acV y)).run Tryz.prog w = .ok (eqAc x y) w := by
  unfold acV
  rw [eq_agg w (d + 2) _ _ _ _ Tryz.underlying129 (by kernel_rfl)]
  simp [Op.eqFields, part, go_sem]
  unfold eqAc
  repeat' split
  all_goals simp_all

theorem guard_ac : Tryz.prog.eqGuardType Tryz.prog.depth 129 = false := by kernel_rfl
theorem guard_q : Tryz.prog.eqGuardType Tryz.prog.depth 23 = false := by kernel_rfl
theorem neq_ac (w : World) (x y : Ac) : (binOp .neq 129 (.agg #[.int .i32 x.perms, .string x.scheme, .string x.id]) (.agg #[.int .i32 y.perms, .string y.scheme, .string y.id])).run Tryz.prog w = .ok (.bool (!eqAc x y)) w := by
  rw [run_neq_struct]
  have := eq_ac w 9997 x y
  unfold acV at this
  rw [this]
  rfl
def eqQ (h : Bool) (a b : Int) (h' : Bool) (a' b' : Int) : Bool := h == h' && (a == a' && b == b')
theorem eq_q (w : World) (d : Nat) (h : Bool) (a b : Int) (h' : Bool) (a' b' : Int) : (Op.equalIn (d + 2) 23 (.agg #[.bool h, .int .i64 a, .int .i64 b]) (.agg #[.bool h', .int .i64 a', .int .i64 b'])).run Tryz.prog w = .ok (eqQ h a b h' a' b') w := by
  rw [eq_agg w (d + 1) _ _ _ _ Tryz.underlying23 (by kernel_rfl)]
  simp [Op.eqFields, part, go_sem]
  unfold eqQ
  repeat' split
  all_goals simp_all
theorem neq_q (w : World) (h : Bool) (a b : Int) (h' : Bool) (a' b' : Int) : (binOp .neq 23 (.agg #[.bool h, .int .i64 a, .int .i64 b]) (.agg #[.bool h', .int .i64 a', .int .i64 b'])).run Tryz.prog w = .ok (.bool (!eqQ h a b h' a' b')) w := by
  rw [run_neq_struct, eq_q w 9998]; rfl
theorem eql_q (w : World) (h : Bool) (a b : Int) (h' : Bool) (a' b' : Int) : (binOp .eql 23 (.agg #[.bool h, .int .i64 a, .int .i64 b]) (.agg #[.bool h', .int .i64 a', .int .i64 b'])).run Tryz.prog w = .ok (.bool (eqQ h a b h' a' b')) w := by
  rw [run_eql_struct, eq_q w 9998]; rfl
end Go.Proofs.YthinpbdbhijbgaaGreatDoor
namespace Go.Proofs.YthinpbdbhijbgaaGreatDoor
open Go.RowKit
set_option maxHeartbeats 2000000
set_option maxRecDepth 100000

/-- Are two lists alike. -/
def eqAcs : List Ac → List Ac → Bool
  | [], [] => true
  | x :: xs, y :: ys => eqAc x y && eqAcs xs ys
  | _, _ => false
theorem eqAcs_len : ∀ xs ys, xs.length ≠ ys.length → eqAcs xs ys = false
  | [], [], h => absurd rfl h
  | [], _ :: _, _ => rfl
  | _ :: _, [], _ => rfl
  | x :: xs, y :: ys, h => by simp only [eqAcs]; rw [eqAcs_len xs ys (by simpa using h)]; simp
theorem eqAcs_drop (xs ys : List Ac) (k : Nat) (h : k < xs.length) (h' : k < ys.length) : eqAcs (xs.drop k) (ys.drop k) = (eqAc xs[k] ys[k] && eqAcs (xs.drop (k + 1)) (ys.drop (k + 1))) := by
  rw [List.drop_eq_getElem_cons h, List.drop_eq_getElem_cons h']; rfl

theorem racls_any (a b : Option Addr) (c d : Nat) (xs ys : List Ac) (w : World) (hx : Cells w.heap.size w a (acCs xs)) (hy : Cells w.heap.size w b (acCs ys)) (hm : xs.length ≤ 9223372036854775800) (hm' : ys.length ≤ 9223372036854775800) :
    Calls Tryz.prog 130 #[.slice a xs.length c, .slice b ys.length d] w fun e w' => e = .returned (.bool (eqAcs xs ys)) ∧ Below w.heap.size w w' := by
  by_cases hl : xs.length ≠ ys.length
  · have H1 := Lib.hid (eqAcs_len xs ys hl)
    have hlb : ((xs.length : Int) != ys.length) = true := by simp; omega
    clear hl hx hy
    go_enter Tryz.func130, Tryz.ntmps130
    go_wp2
    go_ret
    exact ⟨by rw [H1.out]; rfl, Below.refl _ _⟩
  have hl : xs.length = ys.length := by omega
  have HL := Lib.hid hl
  have hg := guard_ac
  have hnq := neq_ac
  have hlb : ((xs.length : Int) != ys.length) = false := by simp [hl]
  clear hl
  go_enter Tryz.func130, Tryz.ntmps130
  go_wp2
  go_loopw [5] (fun i wr => ∃ (k n : Nat), k ≤ xs.length ∧ i = .int .i64 k ∧ wr = w.drewN n ∧ Hid (eqAcs xs ys = eqAcs (xs.drop k) (ys.drop k))) (fun i _ => xs.length - (intOf i).toNat)
  case atStart => exact ⟨0, 0, Nat.zero_le _, rfl, rfl, rfl⟩
  case round =>
    obtain ⟨k, n, hk, rfl, rfl, HQ⟩ := hrel
    by_cases hlt : k < xs.length
    · have hlt' : k < ys.length := by have := HL.out; omega
      obtain ⟨b1, o1, rfl, hb1, c0, c1, c2⟩ := acCells hx k hlt
      obtain ⟨b2, o2, rfl, hb2, d0, d1, d2⟩ := acCells hy k hlt'
      have hk1 : (k : Int) < xs.length := by omega
      have hk2 : (k : Int) < ys.length := by omega
      have hk0 : (0 : Int) ≤ k := by omega
      have HD := Lib.hid (eqAcs_drop xs ys k hlt hlt')
      cases he : eqAc xs[k] ys[k]
      · have H1 : Hid (eqAcs xs ys = false) := by unfold Hid; rw [HQ.out, HD.out, he]; rfl
        clear hx hy
        go_wp2
        go_quiet (fail)
        go_wp2
        go_ret
        exact ⟨by rw [H1.out]; rfl, below_drewN (below_drewN (Below.refl _ _) _) _⟩
      · have H1 : Hid (eqAcs xs ys = eqAcs (xs.drop (k + 1)) (ys.drop (k + 1))) := by unfold Hid; rw [HQ.out, HD.out, he]; rfl
        clear hx hy
        go_wp2
        go_quiet (fail)
        go_wp2
        go_roundw
        case rel => exact ⟨k + 1, _, by omega, by go_num, rfl, H1⟩
        case measure => simp [intOf]; omega
    · obtain rfl : k = xs.length := by omega
      have H1 : Hid (eqAcs xs ys = true) := by
        unfold Hid; rw [HQ.out, List.drop_length, HL.out, List.drop_length]; rfl
      clear hx hy
      go_wp2
      go_ret
      exact ⟨by rw [H1.out]; rfl, below_drewN (Below.refl _ _) _⟩

theorem eqAc_self (x : Ac) : eqAc x x = true := by simp [eqAc]
theorem eqAcs_self : ∀ l : List Ac, eqAcs l l = true
  | [] => rfl
  | x :: l => by simp only [eqAcs]; rw [eqAc_self, eqAcs_self l]; rfl

/-- A node and its like are alike. -/
theorem rsame_self (n : Nd) (da aa db ab : Option Addr) (dc ac dd ad : Nat) (w : World) (hf : Fit n) (hD : Cells w.heap.size w da (n.data.map u8v)) (hA : Cells w.heap.size w aa (acCs n.acl)) (hD' : Cells w.heap.size w db (n.data.map u8v)) (hA' : Cells w.heap.size w ab (acCs n.acl)) :
    Calls Tryz.prog 55 #[.agg (ndC n (.slice da n.data.length dc) (.slice aa n.acl.length ac)), .agg (ndC n (.slice db n.data.length dd) (.slice ab n.acl.length ad))] w fun e w' => e = .returned (.bool true) ∧ Below w.heap.size w w' := by
  have hfa := hf.acl
  obtain ⟨W2, hW2⟩ : ∃ W2, W2 = (w.alloc (.cells (ndC n (.slice da n.data.length dc) (.slice aa n.acl.length ac)) 44)).alloc (.cells (ndC n (.slice db n.data.length dd) (.slice ab n.acl.length ad)) 44) := ⟨_, rfl⟩
  have hs2 : W2.heap.size = w.heap.size + 1 + 1 := by rw [hW2]; simp
  have hb2 : Below w.heap.size w W2 := by rw [hW2]; exact ((Below.refl _ _).alloc (Nat.le_refl _) _).alloc (by simp) _
  have hx : Box W2 w.heap.size (ndC n (.slice da n.data.length dc) (.slice aa n.acl.length ac)) := fun j => by rw [hW2]; exact cell_of_row _ _ _ _ _ _ (heap_alloc2_old w _ _)
  have hy : Box W2 (w.heap.size + 1) (ndC n (.slice db n.data.length dd) (.slice ab n.acl.length ad)) := fun j => by rw [hW2]; exact cell_of_row _ _ _ _ _ _ (heap_alloc2_new w _ _)
  have hv1 := conv_string dc (hD.below hb2)
  have hv2 := conv_string dd (hD'.below hb2)
  have CA := racls_any aa ab ac ad n.acl n.acl W2 ((hA.below hb2).mono (by omega)) ((hA'.below hb2).mono (by omega)) (by omega) (by omega)
  rw [eqAcs_self] at CA
  have hgq := guard_q
  have hnq := neq_q
  have hqq : ∀ h a b, eqQ h a b h a b = true := fun h a b => by simp [eqQ]
  rw [hW2] at hv1 hv2 CA
  have CA := Lib.hid CA
  have HW2 := Lib.hid hW2
  unfold ndC at hx hy hv1 hv2 CA HW2 ⊢
  clear hW2 hD hA hD' hA'
  go_enter Tryz.func55, Tryz.ntmps55
  go_wp2_with fail
  refine CA.out.mono ?_
  rintro e w3 ⟨rfl, hb3⟩
  rw [← HW2.out] at hb3
  have hx3 := hx.below hb3 (by omega)
  have hy3 := hy.below hb3 (by omega)
  have hbb := hb2.trans (hb3.mono (by omega))
  unfold Box at hx3 hy3
  clear CA hx hy hv1 hv2 hb3 hb2 HW2
  go_wp2
  go_ret
  exact ⟨rfl, hbb⟩
end Go.Proofs.YthinpbdbhijbgaaGreatDoor
namespace Go.Proofs.YthinpbdbhijbgaaGreatDoor
open Go.RowKit
set_option maxHeartbeats 4000000
set_option maxRecDepth 100000

/-- Are two nodes one? -/
noncomputable def sameN (x y : Nd) : Bool := @decide (x = y) (Classical.propDecidable _)
theorem sameN_self (x : Nd) : sameN x x = true := by simp [sameN]
theorem sameN_not {x y : Nd} (h : x ≠ y) : sameN x y = false := by simp [sameN, h]
theorem ba_ext0 {a b : ByteArray} (h : a.data.toList = b.data.toList) : a = b := ByteArray.ext (Array.toList_inj.1 h)
theorem eqAc_eq {x y : Ac} (h : eqAc x y = true) : x = y := by
  unfold eqAc at h
  simp only [Bool.and_eq_true, beq_iff_eq, ByteArray.toList_eq] at h
  obtain ⟨h1, h2, h3⟩ := h
  cases x; cases y
  simp only at h1 h2 h3
  rw [h1, ba_ext0 h2, ba_ext0 h3]
theorem eqAcs_eq : ∀ {xs ys : List Ac}, eqAcs xs ys = true → xs = ys
  | [], [], _ => rfl
  | [], _ :: _, h => by simp [eqAcs] at h
  | _ :: _, [], h => by simp [eqAcs] at h
  | x :: xs, y :: ys, h => by
    simp only [eqAcs, Bool.and_eq_true] at h
    rw [eqAc_eq h.1, eqAcs_eq h.2]

theorem rsame_any (x y : Nd) (da aa db ab : Option Addr) (dc ac dd ad : Nat) (w : World) (hf : Fit x) (hf' : Fit y) (hD : Cells w.heap.size w da (x.data.map u8v)) (hA : Cells w.heap.size w aa (acCs x.acl)) (hD' : Cells w.heap.size w db (y.data.map u8v)) (hA' : Cells w.heap.size w ab (acCs y.acl)) :
    Calls Tryz.prog 55 #[.agg (ndC x (.slice da x.data.length dc) (.slice aa x.acl.length ac)), .agg (ndC y (.slice db y.data.length dd) (.slice ab y.acl.length ad))] w fun e w' => e = .returned (.bool (sameN x y)) ∧ Below w.heap.size w w' := by
  by_cases hxy : x = y
  · subst hxy
    rw [sameN_self]
    exact rsame_self x da aa db ab dc ac dd ad w hf hD hA hD' hA'
  rw [sameN_not hxy]
  have hfa := hf.acl
  have hfb := hf'.acl
  obtain ⟨W2, hW2⟩ : ∃ W2, W2 = (w.alloc (.cells (ndC x (.slice da x.data.length dc) (.slice aa x.acl.length ac)) 44)).alloc (.cells (ndC y (.slice db y.data.length dd) (.slice ab y.acl.length ad)) 44) := ⟨_, rfl⟩
  have hs2 : W2.heap.size = w.heap.size + 1 + 1 := by rw [hW2]; simp
  have hb2 : Below w.heap.size w W2 := by rw [hW2]; exact ((Below.refl _ _).alloc (Nat.le_refl _) _).alloc (by simp) _
  have hx : Box W2 w.heap.size (ndC x (.slice da x.data.length dc) (.slice aa x.acl.length ac)) := fun j => by rw [hW2]; exact cell_of_row _ _ _ _ _ _ (heap_alloc2_old w _ _)
  have hy : Box W2 (w.heap.size + 1) (ndC y (.slice db y.data.length dd) (.slice ab y.acl.length ad)) := fun j => by rw [hW2]; exact cell_of_row _ _ _ _ _ _ (heap_alloc2_new w _ _)
  have hv1 := conv_string dc (hD.below hb2)
  have hv2 := conv_string dd (hD'.below hb2)
  have CA := racls_any aa ab ac ad x.acl y.acl W2 ((hA.below hb2).mono (by omega)) ((hA'.below hb2).mono (by omega)) (by omega) (by omega)
  have hgq := guard_q
  have hnq := neq_q
  rw [hW2] at hv1 hv2 CA
  clear hD hA hD' hA' hf hf'
  obtain ⟨x_path, x_data, x_acl, x_owner, x_czxid, x_mzxid, x_pzxid, x_azxid, x_qzxid, x_ctime, x_mtime, x_version, x_creates, x_aversion, x_has, x_count, x_bytes⟩ := x
  obtain ⟨y_path, y_data, y_acl, y_owner, y_czxid, y_mzxid, y_pzxid, y_azxid, y_qzxid, y_ctime, y_mtime, y_version, y_creates, y_aversion, y_has, y_count, y_bytes⟩ := y
  simp only at hx hy hv1 hv2 CA hW2 hfa hfb
  by_cases q : x_data = y_data
  rotate_left
  · have f1 : (x_data != y_data) = true := by simpa using q
    have f2 : (x_data == y_data) = false := by simpa using q
    have hbw := hb2
    rw [hW2] at hbw
    unfold ndC at hbw
    clear CA hxy
    have HW2 := Lib.hid hW2
    unfold Box ndC at hx hy
    unfold ndC at hv1 hv2 HW2 ⊢
    clear hW2
    rw [HW2.out] at hx hy
    go_enter Tryz.func55, Tryz.ntmps55
    go_wp2
    go_ret
    exact ⟨rfl, hbw⟩
  subst q
  by_cases q : x_acl = y_acl
  rotate_left
  · rw [show eqAcs x_acl y_acl = false from Bool.eq_false_iff.2 fun h => q (eqAcs_eq h)] at CA
    have CA := Lib.hid CA
    clear hxy q
    have HW2 := Lib.hid hW2
    unfold ndC at hx hy hv1 hv2 CA HW2 ⊢
    clear hW2
    go_enter Tryz.func55, Tryz.ntmps55
    go_wp2_with fail
    refine CA.out.mono ?_
    rintro e w3 ⟨rfl, hb3⟩
    rw [← HW2.out] at hb3
    have hx3 := hx.below hb3 (by omega)
    have hy3 := hy.below hb3 (by omega)
    have hbb := hb2.trans (hb3.mono (by omega))
    unfold Box at hx3 hy3
    clear CA hx hy hv1 hv2 hb3 hb2 HW2
    go_wp2
    go_ret
    exact ⟨rfl, hbb⟩
  subst q
  by_cases q : x_path = y_path
  rotate_left
  · have f1 : (x_path.toList != y_path.toList) = true := by simp only [ByteArray.toList_eq, bne_iff_ne, ne_eq]; exact fun h => q (ba_ext0 h)
    have f2 : (x_path.toList == y_path.toList) = false := by simp only [ByteArray.toList_eq, beq_eq_false_iff_ne, ne_eq]; exact fun h => q (ba_ext0 h)
    rw [eqAcs_self] at CA
    have hqq : ∀ h a b, eqQ h a b h a b = true := fun h a b => by simp [eqQ]
    have CA := Lib.hid CA
    clear hxy q
    have HW2 := Lib.hid hW2
    unfold ndC at hx hy hv1 hv2 CA HW2 ⊢
    clear hW2
    go_enter Tryz.func55, Tryz.ntmps55
    go_wp2_with fail
    refine CA.out.mono ?_
    rintro e w3 ⟨rfl, hb3⟩
    rw [← HW2.out] at hb3
    have hx3 := hx.below hb3 (by omega)
    have hy3 := hy.below hb3 (by omega)
    have hbb := hb2.trans (hb3.mono (by omega))
    unfold Box at hx3 hy3
    clear CA hx hy hv1 hv2 hb3 hb2 HW2
    go_wp2
    go_ret
    exact ⟨rfl, hbb⟩
  subst q
  by_cases q : x_owner = y_owner
  rotate_left
  · have f1 : (x_owner != y_owner) = true := by simpa using q
    have f2 : (x_owner == y_owner) = false := by simpa using q
    rw [eqAcs_self] at CA
    have hqq : ∀ h a b, eqQ h a b h a b = true := fun h a b => by simp [eqQ]
    have CA := Lib.hid CA
    clear hxy q
    have HW2 := Lib.hid hW2
    unfold ndC at hx hy hv1 hv2 CA HW2 ⊢
    clear hW2
    go_enter Tryz.func55, Tryz.ntmps55
    go_wp2_with fail
    refine CA.out.mono ?_
    rintro e w3 ⟨rfl, hb3⟩
    rw [← HW2.out] at hb3
    have hx3 := hx.below hb3 (by omega)
    have hy3 := hy.below hb3 (by omega)
    have hbb := hb2.trans (hb3.mono (by omega))
    unfold Box at hx3 hy3
    clear CA hx hy hv1 hv2 hb3 hb2 HW2
    go_wp2
    go_ret
    exact ⟨rfl, hbb⟩
  subst q
  by_cases q : x_has = y_has ∧ x_count = y_count ∧ x_bytes = y_bytes
  rotate_left
  · have hqq : eqQ x_has x_count x_bytes y_has y_count y_bytes = false := Bool.eq_false_iff.2 fun h => q (by unfold eqQ at h; simpa using h)
    rw [eqAcs_self] at CA
    have CA := Lib.hid CA
    clear hxy q
    have HW2 := Lib.hid hW2
    unfold ndC at hx hy hv1 hv2 CA HW2 ⊢
    clear hW2
    go_enter Tryz.func55, Tryz.ntmps55
    go_wp2_with fail
    refine CA.out.mono ?_
    rintro e w3 ⟨rfl, hb3⟩
    rw [← HW2.out] at hb3
    have hx3 := hx.below hb3 (by omega)
    have hy3 := hy.below hb3 (by omega)
    have hbb := hb2.trans (hb3.mono (by omega))
    unfold Box at hx3 hy3
    clear CA hx hy hv1 hv2 hb3 hb2 HW2
    go_wp2
    go_ret
    exact ⟨rfl, hbb⟩
  obtain ⟨rfl, rfl, rfl⟩ := q
  by_cases q : x_czxid = y_czxid
  rotate_left
  · have f1 : (x_czxid != y_czxid) = true := by simpa using q
    have f2 : (x_czxid == y_czxid) = false := by simpa using q
    rw [eqAcs_self] at CA
    have hqq : ∀ h a b, eqQ h a b h a b = true := fun h a b => by simp [eqQ]
    have CA := Lib.hid CA
    clear hxy q
    have HW2 := Lib.hid hW2
    unfold ndC at hx hy hv1 hv2 CA HW2 ⊢
    clear hW2
    go_enter Tryz.func55, Tryz.ntmps55
    go_wp2_with fail
    refine CA.out.mono ?_
    rintro e w3 ⟨rfl, hb3⟩
    rw [← HW2.out] at hb3
    have hx3 := hx.below hb3 (by omega)
    have hy3 := hy.below hb3 (by omega)
    have hbb := hb2.trans (hb3.mono (by omega))
    unfold Box at hx3 hy3
    clear CA hx hy hv1 hv2 hb3 hb2 HW2
    go_wp2
    go_ret
    exact ⟨rfl, hbb⟩
  subst q
  by_cases q : x_mzxid = y_mzxid
  rotate_left
  · have f1 : (x_mzxid != y_mzxid) = true := by simpa using q
    have f2 : (x_mzxid == y_mzxid) = false := by simpa using q
    rw [eqAcs_self] at CA
    have hqq : ∀ h a b, eqQ h a b h a b = true := fun h a b => by simp [eqQ]
    have CA := Lib.hid CA
    clear hxy q
    have HW2 := Lib.hid hW2
    unfold ndC at hx hy hv1 hv2 CA HW2 ⊢
    clear hW2
    go_enter Tryz.func55, Tryz.ntmps55
    go_wp2_with fail
    refine CA.out.mono ?_
    rintro e w3 ⟨rfl, hb3⟩
    rw [← HW2.out] at hb3
    have hx3 := hx.below hb3 (by omega)
    have hy3 := hy.below hb3 (by omega)
    have hbb := hb2.trans (hb3.mono (by omega))
    unfold Box at hx3 hy3
    clear CA hx hy hv1 hv2 hb3 hb2 HW2
    go_wp2
    go_ret
    exact ⟨rfl, hbb⟩
  subst q
  by_cases q : x_pzxid = y_pzxid
  rotate_left
  · have f1 : (x_pzxid != y_pzxid) = true := by simpa using q
    have f2 : (x_pzxid == y_pzxid) = false := by simpa using q
    rw [eqAcs_self] at CA
    have hqq : ∀ h a b, eqQ h a b h a b = true := fun h a b => by simp [eqQ]
    have CA := Lib.hid CA
    clear hxy q
    have HW2 := Lib.hid hW2
    unfold ndC at hx hy hv1 hv2 CA HW2 ⊢
    clear hW2
    go_enter Tryz.func55, Tryz.ntmps55
    go_wp2_with fail
    refine CA.out.mono ?_
    rintro e w3 ⟨rfl, hb3⟩
    rw [← HW2.out] at hb3
    have hx3 := hx.below hb3 (by omega)
    have hy3 := hy.below hb3 (by omega)
    have hbb := hb2.trans (hb3.mono (by omega))
    unfold Box at hx3 hy3
    clear CA hx hy hv1 hv2 hb3 hb2 HW2
    go_wp2
    go_ret
    exact ⟨rfl, hbb⟩
  subst q
  by_cases q : x_azxid = y_azxid
  rotate_left
  · have f1 : (x_azxid != y_azxid) = true := by simpa using q
    have f2 : (x_azxid == y_azxid) = false := by simpa using q
    rw [eqAcs_self] at CA
    have hqq : ∀ h a b, eqQ h a b h a b = true := fun h a b => by simp [eqQ]
    have CA := Lib.hid CA
    clear hxy q
    have HW2 := Lib.hid hW2
    unfold ndC at hx hy hv1 hv2 CA HW2 ⊢
    clear hW2
    go_enter Tryz.func55, Tryz.ntmps55
    go_wp2_with fail
    refine CA.out.mono ?_
    rintro e w3 ⟨rfl, hb3⟩
    rw [← HW2.out] at hb3
    have hx3 := hx.below hb3 (by omega)
    have hy3 := hy.below hb3 (by omega)
    have hbb := hb2.trans (hb3.mono (by omega))
    unfold Box at hx3 hy3
    clear CA hx hy hv1 hv2 hb3 hb2 HW2
    go_wp2
    go_ret
    exact ⟨rfl, hbb⟩
  subst q
  by_cases q : x_qzxid = y_qzxid
  rotate_left
  · have f1 : (x_qzxid != y_qzxid) = true := by simpa using q
    have f2 : (x_qzxid == y_qzxid) = false := by simpa using q
    rw [eqAcs_self] at CA
    have hqq : ∀ h a b, eqQ h a b h a b = true := fun h a b => by simp [eqQ]
    have CA := Lib.hid CA
    clear hxy q
    have HW2 := Lib.hid hW2
    unfold ndC at hx hy hv1 hv2 CA HW2 ⊢
    clear hW2
    go_enter Tryz.func55, Tryz.ntmps55
    go_wp2_with fail
    refine CA.out.mono ?_
    rintro e w3 ⟨rfl, hb3⟩
    rw [← HW2.out] at hb3
    have hx3 := hx.below hb3 (by omega)
    have hy3 := hy.below hb3 (by omega)
    have hbb := hb2.trans (hb3.mono (by omega))
    unfold Box at hx3 hy3
    clear CA hx hy hv1 hv2 hb3 hb2 HW2
    go_wp2
    go_ret
    exact ⟨rfl, hbb⟩
  subst q
  by_cases q : x_ctime = y_ctime
  rotate_left
  · have f1 : (x_ctime != y_ctime) = true := by simpa using q
    have f2 : (x_ctime == y_ctime) = false := by simpa using q
    rw [eqAcs_self] at CA
    have hqq : ∀ h a b, eqQ h a b h a b = true := fun h a b => by simp [eqQ]
    have CA := Lib.hid CA
    clear hxy q
    have HW2 := Lib.hid hW2
    unfold ndC at hx hy hv1 hv2 CA HW2 ⊢
    clear hW2
    go_enter Tryz.func55, Tryz.ntmps55
    go_wp2_with fail
    refine CA.out.mono ?_
    rintro e w3 ⟨rfl, hb3⟩
    rw [← HW2.out] at hb3
    have hx3 := hx.below hb3 (by omega)
    have hy3 := hy.below hb3 (by omega)
    have hbb := hb2.trans (hb3.mono (by omega))
    unfold Box at hx3 hy3
    clear CA hx hy hv1 hv2 hb3 hb2 HW2
    go_wp2
    go_ret
    exact ⟨rfl, hbb⟩
  subst q
  by_cases q : x_mtime = y_mtime
  rotate_left
  · have f1 : (x_mtime != y_mtime) = true := by simpa using q
    have f2 : (x_mtime == y_mtime) = false := by simpa using q
    rw [eqAcs_self] at CA
    have hqq : ∀ h a b, eqQ h a b h a b = true := fun h a b => by simp [eqQ]
    have CA := Lib.hid CA
    clear hxy q
    have HW2 := Lib.hid hW2
    unfold ndC at hx hy hv1 hv2 CA HW2 ⊢
    clear hW2
    go_enter Tryz.func55, Tryz.ntmps55
    go_wp2_with fail
    refine CA.out.mono ?_
    rintro e w3 ⟨rfl, hb3⟩
    rw [← HW2.out] at hb3
    have hx3 := hx.below hb3 (by omega)
    have hy3 := hy.below hb3 (by omega)
    have hbb := hb2.trans (hb3.mono (by omega))
    unfold Box at hx3 hy3
    clear CA hx hy hv1 hv2 hb3 hb2 HW2
    go_wp2
    go_ret
    exact ⟨rfl, hbb⟩
  subst q
  by_cases q : x_version = y_version
  rotate_left
  · have f1 : (x_version != y_version) = true := by simpa using q
    have f2 : (x_version == y_version) = false := by simpa using q
    rw [eqAcs_self] at CA
    have hqq : ∀ h a b, eqQ h a b h a b = true := fun h a b => by simp [eqQ]
    have CA := Lib.hid CA
    clear hxy q
    have HW2 := Lib.hid hW2
    unfold ndC at hx hy hv1 hv2 CA HW2 ⊢
    clear hW2
    go_enter Tryz.func55, Tryz.ntmps55
    go_wp2_with fail
    refine CA.out.mono ?_
    rintro e w3 ⟨rfl, hb3⟩
    rw [← HW2.out] at hb3
    have hx3 := hx.below hb3 (by omega)
    have hy3 := hy.below hb3 (by omega)
    have hbb := hb2.trans (hb3.mono (by omega))
    unfold Box at hx3 hy3
    clear CA hx hy hv1 hv2 hb3 hb2 HW2
    go_wp2
    go_ret
    exact ⟨rfl, hbb⟩
  subst q
  by_cases q : x_creates = y_creates
  rotate_left
  · have f1 : (x_creates != y_creates) = true := by simpa using q
    have f2 : (x_creates == y_creates) = false := by simpa using q
    rw [eqAcs_self] at CA
    have hqq : ∀ h a b, eqQ h a b h a b = true := fun h a b => by simp [eqQ]
    have CA := Lib.hid CA
    clear hxy q
    have HW2 := Lib.hid hW2
    unfold ndC at hx hy hv1 hv2 CA HW2 ⊢
    clear hW2
    go_enter Tryz.func55, Tryz.ntmps55
    go_wp2_with fail
    refine CA.out.mono ?_
    rintro e w3 ⟨rfl, hb3⟩
    rw [← HW2.out] at hb3
    have hx3 := hx.below hb3 (by omega)
    have hy3 := hy.below hb3 (by omega)
    have hbb := hb2.trans (hb3.mono (by omega))
    unfold Box at hx3 hy3
    clear CA hx hy hv1 hv2 hb3 hb2 HW2
    go_wp2
    go_ret
    exact ⟨rfl, hbb⟩
  subst q
  by_cases q : x_aversion = y_aversion
  rotate_left
  · have f1 : (x_aversion != y_aversion) = true := by simpa using q
    have f2 : (x_aversion == y_aversion) = false := by simpa using q
    rw [eqAcs_self] at CA
    have hqq : ∀ h a b, eqQ h a b h a b = true := fun h a b => by simp [eqQ]
    have CA := Lib.hid CA
    clear hxy q
    have HW2 := Lib.hid hW2
    unfold ndC at hx hy hv1 hv2 CA HW2 ⊢
    clear hW2
    go_enter Tryz.func55, Tryz.ntmps55
    go_wp2_with fail
    refine CA.out.mono ?_
    rintro e w3 ⟨rfl, hb3⟩
    rw [← HW2.out] at hb3
    have hx3 := hx.below hb3 (by omega)
    have hy3 := hy.below hb3 (by omega)
    have hbb := hb2.trans (hb3.mono (by omega))
    unfold Box at hx3 hy3
    clear CA hx hy hv1 hv2 hb3 hb2 HW2
    go_wp2
    go_ret
    exact ⟨rfl, hbb⟩
  subst q
  exact absurd rfl hxy
end Go.Proofs.YthinpbdbhijbgaaGreatDoor
namespace Go.Proofs.YthinpbdbhijbgaaGreatDoor
open Go.RowKit Go.Sort
set_option maxHeartbeats 1000000

/-- How two trees part at a path: 1 gone, 2 come, 3 other. -/
noncomputable def partK (a b : Option Nd) : Option Int := match a, b with
  | some _, none => some 1
  | none, some _ => some 2
  | some v, some u => if sameN v u = true then none else some 3
  | none, none => none
/-- The document's walk over both lists. -/
noncomputable def diffM : List (Key × Nd) → List (Key × Nd) → List (Key × Int)
  | [], m => m.map fun y => (y.1, 2)
  | x :: l, [] => (x :: l).map fun y => (y.1, 1)
  | x :: l, y :: m => if ordL x.1 y.1 < 0 then (x.1, 1) :: diffM l (y :: m) else if 0 < ordL x.1 y.1 then (y.1, 2) :: diffM (x :: l) m else (if sameN x.2 y.2 = true then [] else [(x.1, 3)]) ++ diffM l m
termination_by l m => l.length + m.length

theorem ordL_neg (a b : List UInt8) : ordL a b < 0 ↔ bytesBefore a b = true := by
  rw [ordL_eq]
  by_cases e : a = b
  · rw [if_pos e, e, WideAt.bytes_irrefl]; simp
  · rw [if_neg e]
    by_cases h : bytesBefore a b = true
    · rw [if_pos h]; simp [h]
    · rw [if_neg h]; simp [h]
theorem ordL_gt (a b : List UInt8) : 0 < ordL a b ↔ bytesBefore b a = true := by
  rw [ordL_eq]
  by_cases e : a = b
  · rw [if_pos e, e, WideAt.bytes_irrefl]; simp
  · rw [if_neg e]
    by_cases h : bytesBefore a b = true
    · rw [if_pos h]
      have : bytesBefore b a = false := by
        cases hb : bytesBefore b a with
        | false => rfl
        | true => have := WideShapes.bytes_trans a b a h hb; rw [WideAt.bytes_irrefl] at this; cases this
      simp [this]
    · rw [if_neg h]
      have := (WideAt.bytes_total a b e).resolve_left h
      simp [this]
theorem ordL_zero {a b : List UInt8} (h1 : ¬ ordL a b < 0) (h2 : ¬ 0 < ordL a b) : a = b := by
  rw [ordL_neg] at h1
  rw [ordL_gt] at h2
  by_cases e : a = b
  · exact e
  · exact ((WideAt.bytes_total a b e).elim h1 h2).elim

theorem mget_cons {α : Type} (x : Key × α) (l : List (Key × α)) (k : Key) : mget (x :: l) k = if x.1 = k then some x.2 else mget l k := by
  unfold mget
  rw [List.find?_cons]
  by_cases e : x.1 = k
  · rw [if_pos e]; simp [e]
  · rw [if_neg e]
    have : (x.1 == k) = false := by simpa using e
    rw [this]
theorem mget_nil {α : Type} (k : Key) : mget ([] : List (Key × α)) k = none := rfl
theorem mget_before {α : Type} {y : Key × α} {m : List (Key × α)} (hm : MSorted (y :: m)) {k : Key} (h : bytesBefore k y.1 = true) : mget (y :: m) k = none := mget_none_of fun x hx e => by
  rcases List.mem_cons.1 hx with rfl | hx
  · rw [e, WideAt.bytes_irrefl] at h; cases h
  · have := WideShapes.bytes_trans _ _ _ h ((List.pairwise_cons.1 hm).1 x hx)
    rw [e, WideAt.bytes_irrefl] at this; cases this
theorem mget_head {α : Type} {y : Key × α} {m : List (Key × α)} (hm : MSorted (y :: m)) : mget m y.1 = none := mget_none_of fun x hx e => by
  have := (List.pairwise_cons.1 hm).1 x hx
  rw [e, WideAt.bytes_irrefl] at this; cases this

theorem diffM_get : ∀ A B : List (Key × Nd), MSorted A → MSorted B → ∀ k : Key, mget (diffM A B) k = partK (mget A k) (mget B k)
  | [], m, _, _, k => by
    rw [diffM]
    have := mget_map (fun _ : Nd => (2 : Int)) m k
    rw [this, mget_nil]
    cases mget m k <;> rfl
  | x :: l, [], _, _, k => by
    rw [diffM]
    have := mget_map (fun _ : Nd => (1 : Int)) (x :: l) k
    rw [this, mget_nil]
    cases mget (x :: l) k <;> rfl
  | x :: l, y :: m, hA, hB, k => by
    have hA2 := (List.pairwise_cons.1 hA).2
    have hB2 := (List.pairwise_cons.1 hB).2
    rw [diffM]
    split
    · rename_i h
      rw [mget_cons, diffM_get l (y :: m) hA2 hB k, mget_cons x l]
      by_cases e : x.1 = k
      · rw [if_pos e, if_pos e, ← e, mget_before hB ((ordL_neg _ _).1 h)]; rfl
      · rw [if_neg e, if_neg e]
    · rename_i h
      split
      · rename_i h2
        rw [mget_cons, diffM_get (x :: l) m hA hB2 k, mget_cons y m]
        by_cases e : y.1 = k
        · rw [if_pos e, if_pos e, ← e, mget_before hA ((ordL_gt _ _).1 h2)]; rfl
        · rw [if_neg e, if_neg e]
      · rename_i h2
        have e := ordL_zero h h2
        have ih := diffM_get l m hA2 hB2 k
        rw [mget_cons x l, mget_cons y m, ← e]
        by_cases ek : x.1 = k
        · rw [if_pos ek, if_pos ek]
          have n1 : mget l k = none := by rw [← ek]; exact mget_head hA
          have n2 : mget m k = none := by rw [← ek, e]; exact mget_head hB
          rw [n1, n2] at ih
          by_cases hs : sameN x.2 y.2 = true
          · rw [if_pos hs]
            show mget ([] ++ diffM l m) k = if _ then none else some 3
            rw [if_pos hs]; exact ih
          · rw [if_neg hs]
            show mget ((x.1, 3) :: diffM l m) k = if _ then none else some 3
            rw [if_neg hs, mget_cons, if_pos ek]
        · rw [if_neg ek, if_neg ek, ← ih]
          split
          · rfl
          · show mget ((x.1, 3) :: diffM l m) k = _
            rw [mget_cons, if_neg ek]
termination_by A B => A.length + B.length

theorem diffM_key : ∀ A B : List (Key × Nd), ∀ z ∈ diffM A B, (∃ x ∈ A, x.1 = z.1) ∨ ∃ y ∈ B, y.1 = z.1
  | [], m, z, h => by
    rw [diffM] at h
    obtain ⟨y, hy, rfl⟩ := List.mem_map.1 h
    exact .inr ⟨y, hy, rfl⟩
  | x :: l, [], z, h => by
    rw [diffM] at h
    obtain ⟨y, hy, rfl⟩ := List.mem_map.1 h
    exact .inl ⟨y, hy, rfl⟩
  | x :: l, y :: m, z, h => by
    rw [diffM] at h
    have w1 : ∀ {l' : List (Key × Nd)}, (∃ a ∈ l, a.1 = z.1) ∨ (∃ b ∈ l', b.1 = z.1) → (∀ b ∈ l', b ∈ y :: m) → (∃ a ∈ x :: l, a.1 = z.1) ∨ ∃ b ∈ y :: m, b.1 = z.1 := fun h hl => by
      rcases h with ⟨a, ha, e⟩ | ⟨b, hb, e⟩
      · exact .inl ⟨a, List.mem_cons_of_mem _ ha, e⟩
      · exact .inr ⟨b, hl b hb, e⟩
    split at h
    · rcases List.mem_cons.1 h with rfl | h
      · exact .inl ⟨x, List.mem_cons_self .., rfl⟩
      · exact w1 (diffM_key l (y :: m) z h) fun _ h => h
    · split at h
      · rcases List.mem_cons.1 h with rfl | h
        · exact .inr ⟨y, List.mem_cons_self .., rfl⟩
        · rcases diffM_key (x :: l) m z h with h | ⟨b, hb, e⟩
          · exact .inl h
          · exact .inr ⟨b, List.mem_cons_of_mem _ hb, e⟩
      · rcases List.mem_append.1 h with h | h
        · split at h
          · cases h
          · rw [List.mem_singleton] at h
            subst h
            exact .inl ⟨x, List.mem_cons_self .., rfl⟩
        · exact w1 (diffM_key l m z h) fun b hb => List.mem_cons_of_mem _ hb
termination_by A B => A.length + B.length

theorem diffM_sorted : ∀ A B : List (Key × Nd), MSorted A → MSorted B → MSorted (diffM A B)
  | [], m, _, hB => by
    rw [diffM]; unfold MSorted; rw [List.pairwise_map]; exact hB
  | x :: l, [], hA, _ => by
    rw [diffM]; unfold MSorted; rw [List.pairwise_map]; exact hA
  | x :: l, y :: m, hA, hB => by
    obtain ⟨hA1, hA2⟩ := List.pairwise_cons.1 hA
    obtain ⟨hB1, hB2⟩ := List.pairwise_cons.1 hB
    rw [diffM]
    split
    · rename_i h
      rw [ordL_neg] at h
      refine List.pairwise_cons.2 ⟨fun z hz => ?_, diffM_sorted l (y :: m) hA2 hB⟩
      rcases diffM_key l (y :: m) z hz with ⟨a, ha, e⟩ | ⟨b, hb, e⟩
      · rw [← e]; exact hA1 a ha
      · rw [← e]
        rcases List.mem_cons.1 hb with rfl | hb
        · exact h
        · exact WideShapes.bytes_trans _ _ _ h (hB1 b hb)
    · rename_i h
      split
      · rename_i h2
        rw [ordL_gt] at h2
        refine List.pairwise_cons.2 ⟨fun z hz => ?_, diffM_sorted (x :: l) m hA hB2⟩
        rcases diffM_key (x :: l) m z hz with ⟨a, ha, e⟩ | ⟨b, hb, e⟩
        · rw [← e]
          rcases List.mem_cons.1 ha with rfl | ha
          · exact h2
          · exact WideShapes.bytes_trans _ _ _ h2 (hA1 a ha)
        · rw [← e]; exact hB1 b hb
      · rename_i h2
        have e := ordL_zero h h2
        have ih := diffM_sorted l m hA2 hB2
        split
        · exact ih
        · refine List.pairwise_cons.2 ⟨fun z hz => ?_, ih⟩
          rcases diffM_key l m z hz with ⟨a, ha, ez⟩ | ⟨b, hb, ez⟩
          · rw [← ez]; exact hA1 a ha
          · rw [← ez]; show bytesBefore x.1 b.1 = true; rw [e]; exact hB1 b hb
termination_by A B => A.length + B.length

/-- The program's list, ahead of the sort. -/
noncomputable def partA (B : List (Key × Nd)) (x : Key × Nd) : List (Key × Int) := match mget B x.1 with
  | none => [(x.1, 1)]
  | some m => if sameN x.2 m = true then [] else [(x.1, 3)]
def partB (A : List (Key × Nd)) (y : Key × Nd) : List (Key × Int) := match mget A y.1 with
  | none => [(y.1, 2)]
  | some _ => []
noncomputable def partsP (A B : List (Key × Nd)) : List (Key × Int) := A.flatMap (partA B) ++ B.flatMap (partB A)

theorem partA_mem {B : List (Key × Nd)} {x : Key × Nd} {z : Key × Int} (h : z ∈ partA B x) : z.1 = x.1 ∧ partK (some x.2) (mget B x.1) = some z.2 := by
  unfold partA at h
  split at h
  · rename_i e
    rw [List.mem_singleton] at h
    subst h; rw [e]; exact ⟨rfl, rfl⟩
  · rename_i m e
    split at h
    · cases h
    · rename_i hs
      rw [List.mem_singleton] at h
      subst h; rw [e]; exact ⟨rfl, if_neg hs⟩
theorem partB_mem {A : List (Key × Nd)} {y : Key × Nd} {z : Key × Int} (h : z ∈ partB A y) : z = (y.1, 2) ∧ mget A y.1 = none := by
  unfold partB at h
  split at h
  · rename_i e
    rw [List.mem_singleton] at h
    exact ⟨h, e⟩
  · cases h
theorem partsP_mem {A B : List (Key × Nd)} (hA : MSorted A) (hB : MSorted B) (k : Key) (c : Int) : (k, c) ∈ partsP A B ↔ partK (mget A k) (mget B k) = some c := by
  unfold partsP
  rw [List.mem_append, List.mem_flatMap, List.mem_flatMap]
  constructor
  · rintro (⟨x, hx, h⟩ | ⟨y, hy, h⟩)
    · obtain ⟨h1, h2⟩ := partA_mem h
      dsimp only at h1 h2
      rw [h1, mget_of_mem hA (show (x.1, x.2) ∈ A from hx)]
      exact h2
    · obtain ⟨h1, h2⟩ := partB_mem h
      obtain ⟨rfl, rfl⟩ := Prod.mk.inj h1
      rw [h2, mget_of_mem hB (show (y.1, y.2) ∈ B from hy)]; rfl
  · intro h
    cases ha : mget A k with
    | some v =>
      refine .inl ⟨(k, v), mget_some_mem ha, ?_⟩
      rw [ha] at h
      unfold partA
      cases hb : mget B k with
      | none => rw [hb] at h; obtain rfl : (1 : Int) = c := Option.some.inj h; simp
      | some u =>
        rw [hb] at h
        have h : (if sameN v u = true then none else some 3) = some c := h
        by_cases hs : sameN v u = true
        · rw [if_pos hs] at h; cases h
        · rw [if_neg hs] at h
          obtain rfl : (3 : Int) = c := Option.some.inj h
          simp [hs]
    | none =>
      rw [ha] at h
      cases hb : mget B k with
      | none => rw [hb] at h; cases h
      | some u =>
        rw [hb] at h
        obtain rfl : (2 : Int) = c := Option.some.inj h
        refine .inr ⟨(k, u), mget_some_mem hb, ?_⟩
        unfold partB
        simp [ha]
theorem partsP_ne {A B : List (Key × Nd)} (hA : MSorted A) (hB : MSorted B) : (partsP A B).Pairwise fun x y => x.1 ≠ y.1 := by
  have hone : ∀ (x : Key × Nd), (partA B x).Pairwise fun a b => a.1 ≠ b.1 := fun x => by
    unfold partA; split
    · simp
    · split <;> simp
  have hone2 : ∀ (x : Key × Nd), (partB A x).Pairwise fun a b => a.1 ≠ b.1 := fun x => by
    unfold partB; split <;> simp
  unfold partsP
  rw [List.pairwise_append]
  refine ⟨?_, ?_, ?_⟩
  · rw [List.pairwise_flatMap]
    refine ⟨fun x _ => hone x, hA.keys_ne.imp fun {x y} h a ha b hb => ?_⟩
    rw [(partA_mem ha).1, (partA_mem hb).1]; exact h
  · rw [List.pairwise_flatMap]
    refine ⟨fun x _ => hone2 x, hB.keys_ne.imp fun {x y} h a ha b hb => ?_⟩
    rw [(partB_mem ha).1, (partB_mem hb).1]; exact h
  · intro a ha b hb e
    obtain ⟨x, hx, h1⟩ := List.mem_flatMap.1 ha
    obtain ⟨y, hy, h2⟩ := List.mem_flatMap.1 hb
    obtain ⟨h3, h4⟩ := partB_mem h2
    rw [(partA_mem h1).1, h3] at e
    dsimp only at e
    exact mget_none h4 x hx e
/-- Sorted by whatever way, it is the document's. -/
theorem parts_sorted {A B : List (Key × Nd)} (hA : MSorted A) (hB : MSorted B) {D : List (Key × Int)} (hp : D.Perm (partsP A B)) (hs : D.Pairwise fun x y => bytesBefore y.1 x.1 = false) : D = diffM A B := by
  have hne : D.Pairwise fun x y => x.1 ≠ y.1 := hp.symm.pairwise (partsP_ne hA hB) fun h => Ne.symm h
  have hms : MSorted D := List.pairwise_iff_getElem.2 fun i j hi hj hij => by
    have h1 := List.pairwise_iff_getElem.1 hs i j hi hj hij
    have h2 := List.pairwise_iff_getElem.1 hne i j hi hj hij
    rcases WideAt.bytes_total _ _ h2 with h | h
    · exact h
    · rw [h] at h1; cases h1
  refine mem_ext_sorted hms (diffM_sorted A B hA hB) fun x => ?_
  obtain ⟨k, c⟩ := x
  rw [hp.mem_iff, partsP_mem hA hB, ← diffM_get A B hA hB k]
  exact ⟨fun h => mget_some_mem h, fun h => mget_of_mem (diffM_sorted A B hA hB) h⟩
end Go.Proofs.YthinpbdbhijbgaaGreatDoor
namespace Go.Proofs.YthinpbdbhijbgaaGreatDoor
open Go.RowKit
set_option maxHeartbeats 2000000
set_option maxRecDepth 100000

def zeroStat : Array Value := #[.int .i64 0, .int .i64 0, .int .i64 0, .int .i64 0, .int .i32 0, .int .i32 0, .int .i32 0, .int .i64 0, .int .i32 0, .int .i32 0, .int .i64 0]
end Go.Proofs.YthinpbdbhijbgaaGreatDoor
