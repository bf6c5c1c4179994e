/- The walks of Count, Get. A slice of nodes, opened. The walk of Add. The walk of Remove. A tree is cut down from the last path on: what is left. What is under a path: itself and what is under its children. -/
import Derived.Test.YtamolbegmkngdaaGreatDoorJQuotaTurns5
import Derived.Test.YtamolbegmkngdaaGreatDoorJQuotaTurns2
namespace Go.Proofs.YtamolbegmkngdaaGreatDoor
open Go.RowKit
set_option maxHeartbeats 2000000
set_option maxRecDepth 100000

theorem results_cell_row2 {P : Program} {fn : Func} {p q : Tmp} {ty : TypeId} (h : fn.results = #[.cell p ty, .tmp q]) (tmps : Array Value) (w : World) (g : Nat) (t : TypeId) (cs : Array Value) (fr : Nat × Nat) (d : TypeDesc) (v : Value)
    (hp : tmps.getD p undef = .pointer (some ⟨g, 0, none⟩)) (hq : tmps.getD q undef = v) (hg : w.heap[g]? = some (.cells cs t fr))
    (hu : P.underlying ty = some d) (hd : (match d with | .struct _ | .array _ _ => true | _ => false) = true) (hi : (P.info? ty).map (·.size) = some cs.size) :
    (results fn tmps).run P w = .ok (.tuple #[.agg cs, v]) w := by
  have hp' : tmps[p]?.getD undef = .pointer (some ⟨g, 0, none⟩) := by simpa using hp
  have hq' : tmps[q]?.getD undef = v := by simpa using hq
  simp [results, h, hp', hq', asAddr, run_loadVar_row w g t ty cs fr d hg hu hd hi]

theorem TreeAt.box {S : Nat → Prop} {w : World} {bt bn bk : Nat} (hd : Hd S w bt bn bk) : Box w bt (treeC bn bk) := fun j => cell_of_row _ _ _ _ _ _ hd.blk

theorem tcount_any (S : Nat → Prop) (w : World) (bt : Nat) (M : List (Key × Nd)) (N : Nat) (hT : TreeAt S w bt M N) : Calls Tryz.prog 26 #[.pointer (some ⟨bt, 0, none⟩)] w fun e w' => e = .returned (.int .i64 M.length) ∧ w = w' := by
  obtain ⟨bn, bk, K, hd, hNd, hKd⟩ := hT
  obtain ⟨m, hm, hr⟩ := hNd.ex
  have hx := TreeAt.box hd
  have hlen := fun ty => hm.len (e := 47) Tryz.underlying115 ty
  have HL := Lib.hid hr.length
  unfold Box treeC at hx
  clear hm hr hd hNd hKd
  go_enter Tryz.func26, Tryz.ntmps26
  go_wp2
  go_ret
  exact ⟨by rw [HL.out]; rfl, rfl⟩

def zeroN : Nd := ⟨⟨#[]⟩, [], [], 0, 0, 0, 0, 0, 0, 0, 0, 0, 0, 0, false, 0, 0⟩
theorem zeroN_fit : Fit zeroN := ⟨by simp [zeroN, ByteArray.size], by simp [zeroN], by simp [zeroN], fun x hx => by simp [zeroN] at hx⟩
theorem zeroN_nds (S : Nat → Prop) (w : World) : NdS S w (.agg zeroNd) zeroN := ⟨none, 0, none, 0, rfl, fun j u h => by simp [zeroN] at h, fun j u h => by simp [zeroN, acCs] at h⟩

theorem NodesAt.look' {S : Nat → Prop} {w : World} {bn : Nat} {M : List (Key × Nd)} {N : Nat} (h : NodesAt S w bn M N) (s : ByteArray) (hs : s.size ≤ maxLen) :
    ∃ v, NdS S w v ((mget M s.data.toList).getD zeroN) ∧ (Instr.lookup 115 (.map (some bn)) (.string s) true).run Tryz.prog w = .ok (.tuple #[v, .bool (mget M s.data.toList).isSome]) w ∧
      (Instr.lookup 115 (.map (some bn)) (.string s) false).run Tryz.prog w = .ok v w := by
  obtain ⟨mm, hm, hr⟩ := h.ex
  have q1 := SMap.look_ok (e := 47) hm strT Tryz.underlying115 (z := .agg zeroNd) (by kernel_rfl) hs
  have q2 := SMap.look (e := 47) hm strT Tryz.underlying115 (z := .agg zeroNd) (by kernel_rfl) hs
  rcases hr.get s.data.toList with ⟨h1, h2⟩ | ⟨y, v, h1, h2, h3⟩
  · rw [h2] at q1 q2
    rw [h1]
    exact ⟨.agg zeroNd, zeroN_nds S w, q1, q2⟩
  · rw [h2] at q1 q2
    rw [h1]
    exact ⟨v, h3, q1, q2⟩

theorem MOk.fit {M : List (Key × Nd)} (h : MOk M) (k : Key) : Fit ((mget M k).getD zeroN) := by
  cases hg : mget M k with
  | none => exact zeroN_fit
  | some n => exact (right_fit (h.at hg).2).1

def GetOut (M : List (Key × Nd)) (s : ByteArray) (w : World) (e : Ending) (w' : World) : Prop :=
  ∃ v, e = .returned (.tuple #[v, .bool (mget M s.data.toList).isSome]) ∧ NdS (fun b => w.heap.size ≤ b ∧ b < w'.heap.size) w' v ((mget M s.data.toList).getD zeroN) ∧ Ext w w'

theorem tget_any (S : Nat → Prop) (w : World) (bt : Nat) (M : List (Key × Nd)) (N : Nat) (hT : TreeAt S w bt M N) (s : ByteArray) (hs : s.size ≤ maxLen) : Calls Tryz.prog 38 #[.pointer (some ⟨bt, 0, none⟩), .string s] w (GetOut M s w) := by
  obtain ⟨W1, hW1⟩ : ∃ W1, W1 = w.alloc (.cells zeroNd 47) := ⟨_, rfl⟩
  have hE1 : Ext w W1 := by rw [hW1]; exact Ext.alloc _ _
  have hz1 : W1.heap.size = w.heap.size + 1 := by rw [hW1]; simp
  have hr1 : W1.heap[w.heap.size]? = some (.cells zeroNd 47 (0, 0)) := by rw [hW1]; exact heap_alloc_new w _
  have hT1 := hT.ext hE1
  have hok := hT.ok
  have hbnd := hT.bound
  obtain ⟨bn, bk, K, hd, hNd, hKd⟩ := hT1
  have hx := TreeAt.box hd
  obtain ⟨v, hv, hq, hq2⟩ := hNd.look' s hs
  clear hq2
  have hfit := hok.fit s.data.toList
  generalize hn : (mget M s.data.toList).getD zeroN = n at *
  obtain ⟨da, dc, aa, ac, rfl, hD, hA⟩ := hv
  obtain ⟨W2, hW2⟩ : ∃ W2, W2 = W1.alloc (.cells (ndC n (.slice da n.data.length dc) (.slice aa n.acl.length ac)) 47) := ⟨_, rfl⟩
  have hE2 : Ext W1 W2 := by rw [hW2]; exact Ext.alloc _ _
  have hz2 : W2.heap.size = W1.heap.size + 1 := by rw [hW2]; simp
  have hr2 := (hE2.block w.heap.size (by omega)).trans hr1
  have hb2 : W2.heap[W1.heap.size]? = some (.cells (ndC n (.slice da n.data.length dc) (.slice aa n.acl.length ac)) 47 (0, 0)) := by rw [hW2]; exact heap_alloc_new W1 _
  have hD2 : Cells W2.heap.size W2 da (n.data.map u8v) := (hD.cells hd.bound).ext hE2
  have hA2 : Cells W2.heap.size W2 aa (acCs n.acl) := (hA.cells hd.bound).ext hE2
  have C := sclone_nd n da aa dc ac W2 hfit hD2 hA2
  have HSET := Lib.hid ((setRow_alloc W1 zeroNd (ndC n (.slice da n.data.length dc) (.slice aa n.acl.length ac)) 47).trans hW2.symm)
  have HNew := Lib.hid (heap_alloc_new W1 (.cells zeroNd 47))
  rw [hz1] at hb2
  have HB2 := Lib.hid hb2
  have HR2 := Lib.hid hr2
  have HW1 := Lib.hid hW1
  have HN := Lib.hid hn
  unfold ndC at HSET HB2 C hq
  unfold zeroNd at HSET HNew HW1 HR2
  unfold Box treeC at hx
  have C := Lib.hid C
  have hx' := hx
  have hq' := hq
  have HS' := HSET.out
  rw [HW1.out] at hx' hq' HS'
  rw [World.size_alloc] at HS'
  have HS2 := Lib.hid HS'
  have HNew' := HNew.out
  rw [HW1.out, World.size_alloc] at HNew'
  have HN2 := Lib.hid HNew'
  clear HSET HNew HNew' HS' hx hq
  clear hW1 hr1 hd hNd hKd hD hA hW2 hb2 hr2 hD2 hA2 hT hn hok hbnd hfit
  go_enter Tryz.func38, Tryz.ntmps38
  go_wp2_with (first | (refine wpList_store_row rfl 47 (.tmp 6) (.tmp 18) rfl (w.heap.size + 1) _ rfl rfl 47 _ HN2.out sizeNd rfl (cells_node n da aa _ _ dc ac) ?_; rw [HS2.out]) | (refine wpList_load_row rfl 47 (.tmp 6) rfl (w.heap.size + 1) rfl 47 _ (0, 0) _ HB2.out Tryz.underlying47 rfl sizeNd ?_))
  refine C.out.mono ?_
  rintro e w3 ⟨v3, rfl, hN3, hb3⟩
  have hE3 : Ext W2 w3 := hb3
  obtain ⟨va, vc, vb, vd, rfl, h1, h2⟩ := hN3
  have HR3 := Lib.hid ((hE3.block w.heap.size (by omega)).trans HR2.out)
  have hz3 := hE3.size
  have hEw : Ext w w3 := (hE1.trans hE2).trans hE3
  clear C HB2 HN2 HS2 hx' hq' hb3
  go_wp2_with (refine wpList_store_row rfl 47 (.tmp 4) (.tmp 21) rfl w.heap.size _ rfl rfl 47 _ HR3.out sizeNd rfl (cells_node n va vb _ _ vc vd) ?_)
  obtain ⟨cs, hcs⟩ : ∃ cs, cs = ndC n (.slice va n.data.length vc) (.slice vb n.acl.length vd) := ⟨_, rfl⟩
  have hR4 := setRow_heap w3 w.heap.size _ cs 47 (0, 0) HR3.out
  have hs4 : (w3.setRow w.heap.size cs).heap.size = w3.heap.size := by simp [World.setRow]
  have hb4 : Ext w (w3.setRow w.heap.size cs) := hEw.trans' ⟨rfl, rfl, rfl, by rw [hs4]; exact Nat.le_refl _, fun k hk => setRow_other _ _ _ _ (by omega)⟩
  have hk : ∀ (b o : Nat) u, (W2.heap.size ≤ b ∧ b < w3.heap.size) → w3.cell? ⟨b, o, none⟩ = some u → (w3.setRow w.heap.size cs).cell? ⟨b, o, none⟩ = some u := fun b o u hb hu =>
    (World.cell?_of_block (setRow_other _ _ _ _ (show b ≠ w.heap.size by have := hb.1; omega))).trans hu
  have c1 := h1.imp (S' := fun b => w.heap.size ≤ b ∧ b < (w3.setRow w.heap.size cs).heap.size) (fun b hb => ⟨by omega, by omega⟩) hk
  have c2 := h2.imp (S' := fun b => w.heap.size ≤ b ∧ b < (w3.setRow w.heap.size cs).heap.size) (fun b hb => ⟨by omega, by omega⟩) hk
  have hsz17 : (Tryz.prog.info? 47).map (·.size) = some cs.size := by rw [hcs]; exact sizeNd
  have hfin : GetOut M s w (.returned (.tuple #[.agg cs, .bool (mget M s.data.toList).isSome])) (w3.setRow w.heap.size cs) :=
    ⟨_, rfl, by rw [HN.out]; exact ⟨va, vc, vb, vd, by rw [hcs], c1, c2⟩, hb4⟩
  rw [hcs] at hfin hR4 hsz17
  refine bodyPost_ret (v := .tuple #[.agg (ndC n (.slice va n.data.length vc) (.slice vb n.acl.length vd)), .bool (mget M s.data.toList).isSome]) ?_ rfl hfin
  exact results_cell_row2 (p := 4) (q := 5) (ty := 47) rfl _ _ w.heap.size 47 _ (0, 0) _ _ rfl rfl hR4 Tryz.underlying47 rfl hsz17
end Go.Proofs.YtamolbegmkngdaaGreatDoor
namespace Go.Proofs.YtamolbegmkngdaaGreatDoor
open Go.ChangeShapes Go.WideShapes Go.ChangeAt Go.RowKit Go.Deep
set_option maxHeartbeats 2000000
set_option maxRecDepth 100000

theorem Tryz.bytes_node : Tryz.prog.bytesOf 47 = 168 := by kernel_rfl

instance : Inhabited Nd := ⟨zeroN⟩

section
variable {H : Type} {enc : TypeId × Value → H} {w : World} {fuel : Nat}

/-- A slice of nodes, opened. -/
theorem open_nodes_cap {v : Value} {x : DataW H × List MemPlace} (h : DataW.trod enc Tryz.prog w 0 (fun _ => true) true fuel 22 [v] = some x) (hz : Light 22 x.1) :
    ∃ (l : List Nd) (a : Option Addr) (cap : Nat), v = .slice a l.length cap ∧ l.length * 168 ≤ 140737488355328 ∧ (∀ n ∈ l, Fit n) ∧ NdsAt w.heap.size w a l ∧ l.length ≤ cap := by
  rcases open_slice Tryz.underlying22 h with ⟨hcs, rfl⟩ | ⟨a, len, cap, m, n, D, Pl, hcs, _, hl, hm, hmm, rfl, hx⟩
  · simp only [List.cons.injEq, and_true] at hcs
    subst hcs
    exact ⟨[], none, 0, rfl, by simp, by simp, fun i n h => (by simp at h), by simp⟩
  · simp only [List.cons.injEq, and_true] at hcs
    subst hcs
    simp only [if_true] at hmm
    subst hmm
    have hw := light_len Tryz.underlying22 hz
    rw [Tryz.bytes_node] at hw
    simp only [List.length_map, List.length_range] at hw
    obtain ⟨X, hX⟩ := choose_lt (n := len) (p := fun i (n : Nd) => ∃ v, NdV w.heap.size w v n ∧ (∀ r u, v.cells[r]? = some u → w.cell? ((a.add (i * 17)).add r) = some u) ∧ Fit n ∧ v.cells[0]? ≠ none) fun i hi => by
      obtain ⟨cs', h1, h2⟩ := hx i (by omega)
      obtain ⟨n, da, aa, dc, ac, rfl, hf, hD, hA⟩ := open_node h2 (light_elem Tryz.underlying22 hz (List.mem_map.2 ⟨i, List.mem_range.2 hi, rfl⟩))
      rw [Tryz.cells_node] at h1
      obtain ⟨_, _, h3⟩ := World.cells?_some h1
      refine ⟨n, _, ⟨da, dc, aa, ac, rfl, hD, hA⟩, fun r u hr => ?_, hf, fun h => by cases h⟩
      have hr' : (ndC n (.slice da n.data.length dc) (.slice aa n.acl.length ac))[r]? = some u := hr
      rw [h3 r (by have := (Array.getElem?_eq_some_iff.1 hr').1; simpa [ndC] using this)]
      simpa using hr'
    refine ⟨(List.range len).map X, some a, m, by simp, by simp; omega, fun x hx' => ?_, fun j n hj => ?_, by simp; omega⟩
    · obtain ⟨i, hi, rfl⟩ := List.mem_map.1 hx'
      obtain ⟨_, _, _, h, _⟩ := hX i (List.mem_range.1 hi)
      exact h
    · simp only [List.getElem?_map] at hj
      by_cases hi : j < len
      · rw [List.getElem?_range hi] at hj
        simp only [Option.map_some, Option.some.injEq] at hj
        subst hj
        obtain ⟨v, hv, hc, _, _⟩ := hX j hi
        obtain ⟨_, _, hc00, _, h0⟩ := hX 0 (by omega)
        obtain ⟨u0, hu0⟩ := Option.ne_none_iff_exists'.1 h0
        have hc0 := hc00 0 _ hu0
        have hsp := World.cell?_spot hc0
        have hlt := World.block_lt_of_cell? _ _ hc0
        obtain ⟨b, off, sp⟩ := a
        obtain rfl : sp = none := by simpa [Addr.add] using hsp
        refine ⟨b, off, v, rfl, by simpa [Addr.add] using hlt, hv, fun r u hr => ?_⟩
        have := hc r u hr
        rw [add_plain, add_plain] at this
        rw [← this]
      · rw [List.getElem?_eq_none (by simp; omega)] at hj
        simp at hj
theorem open_nodes {v : Value} {x : DataW H × List MemPlace} (h : DataW.trod enc Tryz.prog w 0 (fun _ => true) true fuel 22 [v] = some x) (hz : Light 22 x.1) :
    ∃ (l : List Nd) (a : Option Addr) (cap : Nat), v = .slice a l.length cap ∧ l.length * 168 ≤ 140737488355328 ∧ (∀ n ∈ l, Fit n) ∧ NdsAt w.heap.size w a l := by
  obtain ⟨l, a, c, h1, h2, h3, h4, _⟩ := open_nodes_cap h hz
  exact ⟨l, a, c, h1, h2, h3, h4⟩
end
end Go.Proofs.YtamolbegmkngdaaGreatDoor
namespace Go.Proofs.YtamolbegmkngdaaGreatDoor
open Go.RowKit
set_option maxHeartbeats 2000000
set_option maxRecDepth 100000

/-- What Add answers, and what it makes of the nodes. -/
def addE (M : List (Key × Nd)) (n : Nd) : Int :=
  if rightN n ≠ 0 then rightN n else if (mget M (keyN n)).isSome = true then 71 else if n.path.size = 1 ∨ mget M (parentB n.path).data.toList = none then 73 else 0
def addM (M : List (Key × Nd)) (n : Nd) : List (Key × Nd) := if addE M n = 0 then mput M (keyN n) n else M

def TreeTo (S : Nat → Prop) (w : World) (bt : Nat) (M' : List (Key × Nd)) (N' : Nat) (v : Value) (e : Ending) (w' : World) : Prop :=
  e = .returned v ∧ TreeAt (fun k => S k ∨ (w.heap.size ≤ k ∧ k < w'.heap.size)) w' bt M' N' ∧ Mod S w w'

theorem treeTo_same {S : Nat → Prop} {w w' : World} {bt : Nat} {M : List (Key × Nd)} {N N' : Nat} (hT : TreeAt S w bt M N) (hE : Ext w w') (hN : N ≤ N') (v : Value) : TreeTo S w bt M N' v (.returned v) w' :=
  ⟨rfl, (hT.ext hE).keep (fun _ _ => rfl) (fun _ h => .inl h) (fun k hk => hk.elim (fun h => Nat.lt_of_lt_of_le (hT.bound k h) hE.size) (fun h => h.2)) hN, Mod.of_ext hE⟩

theorem add_any (S : Nat → Prop) (w : World) (bt : Nat) (M : List (Key × Nd)) (N : Nat) (hT : TreeAt S w bt M N) (n : Nd) (da aa : Option Addr) (dc ac : Nat) (hu : Tabs w) (hf : Fit n) (hN : N < 4611686018427387904)
    (hD : Cells w.heap.size w da (n.data.map u8v)) (hA : Cells w.heap.size w aa (acCs n.acl)) :
    Calls Tryz.prog 40 #[.pointer (some ⟨bt, 0, none⟩), .agg (ndC n (.slice da n.data.length dc) (.slice aa n.acl.length ac))] w (TreeTo S w bt (addM M n) (N + 1) (.int .i64 (addE M n))) := by
  obtain ⟨W2, hW2⟩ : ∃ W2, W2 = w.alloc (.cells (ndC n (.slice da n.data.length dc) (.slice aa n.acl.length ac)) 47) := ⟨_, rfl⟩
  have he2 : Ext w W2 := by rw [hW2]; exact Ext.alloc _ _
  have hz2 : W2.heap.size = w.heap.size + 1 := by rw [hW2]; simp
  have hn2 : W2.heap[w.heap.size]? = some (.cells (ndC n (.slice da n.data.length dc) (.slice aa n.acl.length ac)) 47 (0, 0)) := by rw [hW2]; exact heap_alloc_new w _
  have hT2 := hT.ext he2
  have hD2 := hD.ext he2
  have hA2 := hA.ext he2
  have hu2 : Tabs W2 := hu.below he2 hu.size
  have CR := right_any n da aa dc ac W2 hf hu2 hA2
  rw [hW2] at CR
  have HW2 := Lib.hid hW2
  have HN := Lib.hid hn2
  have HTW := Lib.hid hT
  have HNW := Lib.hid (hW2 ▸ hn2)
  unfold ndC at CR HW2 HN HNW ⊢
  have CR := Lib.hid CR
  clear hW2 hn2 hT
  by_cases hr : rightN n = 0
  · have hM := hT2.ok
    have HR := Lib.hid hr
    have hps : n.path.size ≤ maxLen := by
      have := (vpath_facts (right_vpath hr)).2.1
      unfold maxLen; omega
    have hvp := right_vpath hr
    have hvf := vpath_facts hvp
    rw [hr] at CR
    clear hr
    go_enter Tryz.func40, Tryz.ntmps40
    go_wp2_with (refine wpList_load_row rfl 47 (.tmp 3) rfl w.heap.size rfl 47 _ (0, 0) _ HNW.out Tryz.underlying47 rfl sizeNd ?_)
    refine CR.out.mono ?_
    rintro e w3 ⟨rfl, hb3⟩
    rw [← HW2.out] at hb3
    have hE3 : Ext W2 w3 := hb3
    have hT3 := hT2.ext hE3
    have hn3 := (hE3.block w.heap.size (by omega)).trans HN.out
    have hD3 := hD2.ext hE3
    have hA3 := hA2.ext hE3
    have hEw3 := he2.trans hE3
    obtain ⟨bn, bk, K, hd, hNd, hKd⟩ := hT3
    clear CR HW2 HN HNW hb3 hz2 hD2 hA2 hu2 hT2
    go_wp2
    refine there_region _ _ _ _ _ _ _ _ _ _ _ _ 0 3 _ 54 rfl (by decide) (by decide) (by decide) hd hNd w.heap.size n.path _ hn3 rfl hps rfl rfl ?_
    intro v0 v1 v2 v3 v4 v5 v6 v7 v8 v9 v10 w4 hE4
    simp only [Act.put]
    go_simp
    rename_i hK
    refine hK _ _ ?_
    have hEw4 := hEw3.trans hE4
    have hT4 : TreeAt S w4 bt M N := TreeAt.ext ⟨bn, bk, K, hd, hNd, hKd⟩ hE4
    have hD4 := hD3.ext hE4
    have hA4 := hA3.ext hE4
    have hn4 := (hE4.block w.heap.size (Array.getElem?_eq_some_iff.1 hn3).1).trans hn3
    clear hd hNd hKd hn3 hD3 hA3 hEw3
    cases hg : mget M n.path.data.toList with
    | some y =>
      have hfin : TreeTo S w bt (addM M n) (N + 1) (.int .i64 (addE M n)) (.returned (.int .i64 71)) w4 := by
        have e : addE M n = 71 := by unfold addE; rw [if_neg (by rw [HR.out]; simp), if_pos (by unfold keyN; rw [hg]; rfl)]
        have e2 : addM M n = M := by unfold addM; rw [if_neg (by rw [e]; decide)]
        rw [e, e2]
        exact treeTo_same HTW.out hEw4 (by omega) _
      have HFIN := Lib.hid hfin
      clear hfin hT4 hEw4 hD4 hA4 hn4 hg
      go_wp2
      go_ret
      exact HFIN.out
    | none =>
      have HG := Lib.hid hg
      have hx4 : Box w4 w.heap.size (ndC n (.slice da n.data.length dc) (.slice aa n.acl.length ac)) := fun j => cell_of_row _ _ _ _ _ _ hn4
      have CP := parent_any n.path w4 (by omega)
      have hlt4 := (Array.getElem?_eq_some_iff.1 hn4).1
      have HN4 := Lib.hid hn4
      unfold Box ndC at hx4
      clear hg hn4
      have hpp : ∃ (pp : ByteArray) (ee : Int), parV n.path = .tuple #[.string pp, .int .i64 ee] ∧ pp.size ≤ maxLen ∧ ((n.path.size = 1 ∨ mget M (parentB n.path).data.toList = none) ↔ (mget M pp.data.toList = none ∨ ee ≠ 0)) ∧ (ee = 0 → pp = parentB n.path) := by
        by_cases hroot : n.path.size = 1
        · exact ⟨⟨#[]⟩, 30, by unfold parV; rw [if_neg (fun h => h.2 hroot)], by unfold maxLen; decide, ⟨fun _ => .inr (by decide), fun _ => .inl hroot⟩, fun h => by cases h⟩
        · have h1 := (path_split hvp hroot).2.2.1
          exact ⟨parentB n.path, 0, by unfold parV; rw [if_pos ⟨hvp, hroot⟩], by unfold maxLen; omega, ⟨fun h => .inl (h.resolve_left hroot), fun h => .inr (h.resolve_right (by simp))⟩, fun _ => rfl⟩
      obtain ⟨pp, ee, hpv, hpz, hiff, hpe⟩ := hpp
      rw [hpv] at CP
      have CP := Lib.hid CP
      have HIFF := Lib.hid hiff
      have HPE := Lib.hid hpe
      clear hpv hiff hpe hvp hvf
      go_wp2_with fail
      refine CP.out.mono ?_
      rintro e w5 ⟨rfl, hb5⟩
      have hE5 : Ext w4 w5 := hb5
      have hEw5 := hEw4.trans hE5
      have hT5 := hT4.ext hE5
      have hD5 := hD4.ext hE5
      have hA5 := hA4.ext hE5
      have hn5 := (hE5.block w.heap.size hlt4).trans HN4.out
      obtain ⟨bn, bk, K, hd, hNd, hKd⟩ := hT5
      have hT5 : TreeAt S w5 bt M N := ⟨bn, bk, K, hd, hNd, hKd⟩
      have hbox := TreeAt.box hd
      obtain ⟨cs, ⟨hc17, hc1⟩, hq, hq2, _⟩ := hNd.look pp hpz
      clear hq2
      have hsz17 : (Tryz.prog.info? 47).map (·.size) = some cs.size := by rw [hc17]; exact sizeNd
      have hzs : zeroNd.size = cs.size := by rw [hc17]; rfl
      obtain ⟨W6, hW6⟩ : ∃ W6, W6 = w5.alloc (.cells cs 47) := ⟨_, rfl⟩
      have HSET6 := Lib.hid ((setRow_alloc w5 zeroNd cs 47).trans hW6.symm)
      have HNew6 := Lib.hid (heap_alloc_new w5 (.cells zeroNd 47))
      have hE6 : Ext w5 W6 := by rw [hW6]; exact Ext.alloc _ _
      have hEw6 := hEw5.trans hE6
      have hT6 := hT5.ext hE6
      have hD6 := hD5.ext hE6
      have hA6 := hA5.ext hE6
      have hn6 := (hE6.block w.heap.size (Array.getElem?_eq_some_iff.1 hn5).1).trans hn5
      have HN6 := Lib.hid hn6
      have hhid : Hid (zeroNd.size = cs.size) := hzs
      unfold zeroNd at HSET6 HNew6
      unfold Box treeC at hbox
      unfold ndC at HN6
      have HC1 := Lib.hid hc1
      have H17 := Lib.hid hsz17
      clear hW6 hd hNd hKd hT5 hzs hc1 hc17 hsz17 CP hx4 hb5 HN4 hE6 hE5 hEw5 hn6 hn5 hD5 hA5 hT4 hD4 hA4 hEw4
      have bad : mget M pp.data.toList = none ∨ ee ≠ 0 → TreeTo S w bt (addM M n) (N + 1) (.int .i64 (addE M n)) (.returned (.int .i64 73)) W6 := fun h => by
        have e : addE M n = 73 := by
          unfold addE
          rw [if_neg (by rw [HR.out]; simp), if_neg (by unfold keyN; rw [HG.out]; simp), if_pos (HIFF.out.2 h)]
        have e2 : addM M n = M := by unfold addM; rw [if_neg (by rw [e]; decide)]
        rw [e, e2]
        exact treeTo_same HTW.out hEw6 (by omega) _
      have BAD := Lib.hid bad
      clear bad
      cases hg : mget M pp.data.toList with
      | none =>
        rw [hg] at hq
        have hq' : (Instr.lookup 115 (.map (some bn)) (.string pp) true).run Tryz.prog w5 = .ok (.tuple #[.agg cs, .bool false]) w5 := hq
        have HFIN := Lib.hid (BAD.out (.inl hg))
        clear hq hg hT6 hD6 hA6 hEw6
        go_wp2_with (refine wpList_store_row rfl 47 (.tmp 10) (.tmp 43) rfl w5.heap.size _ rfl rfl 47 _ HNew6.out H17.out hhid.out HC1.out ?_; rw [HSET6.out])
        go_ret
        exact HFIN.out
      | some y1 =>
        rw [hg] at hq
        have hq' : (Instr.lookup 115 (.map (some bn)) (.string pp) true).run Tryz.prog w5 = .ok (.tuple #[.agg cs, .bool true]) w5 := hq
        by_cases hee : ee = 0
        · subst hee
          have C3 := lay_any S W6 bt M N hT6 n da aa dc ac HR.out HG.out hN hD6 hA6
          have e : addE M n = 0 := by
            unfold addE
            rw [if_neg (by rw [HR.out]; simp), if_neg (by unfold keyN; rw [HG.out]; simp), if_neg (fun h => by
              rcases HIFF.out.1 h with h | h
              · rw [hg] at h; cases h
              · exact h rfl)]
          have e2 : addM M n = mput M (keyN n) n := by unfold addM; rw [if_pos e]
          have E1 := Lib.hid e
          have E2 := Lib.hid e2
          unfold ndC at C3
          have C3 := Lib.hid C3
          have hszw := hEw6.size
          clear hq hg hT6 hD6 hA6 e e2 BAD
          go_wp2_with (first | (refine wpList_store_row rfl 47 (.tmp 10) (.tmp 43) rfl w5.heap.size _ rfl rfl 47 _ HNew6.out H17.out hhid.out HC1.out ?_; rw [HSET6.out]) | (refine wpList_load_row rfl 47 (.tmp 3) rfl w.heap.size rfl 47 _ (0, 0) _ HN6.out Tryz.underlying47 rfl sizeNd ?_))
          refine C3.out.mono ?_
          rintro e w7 ⟨rfl, hT7, hM7⟩
          have hz7 := hM7.size
          have hb7 := HTW.out.bound
          have hfin : TreeTo S w bt (addM M n) (N + 1) (.int .i64 (addE M n)) (.returned (.int .i64 0)) w7 := by
            rw [E1.out, E2.out]
            exact ⟨rfl, hT7.keep (fun _ _ => rfl) (fun k hk => hk.imp id fun h => ⟨by omega, h.2⟩) (fun k hk => hk.elim (fun h => by have := hb7 k h; omega) (fun h => h.2)) (Nat.le_refl _), (Mod.of_ext hEw6).trans hM7⟩
          have HFIN := Lib.hid hfin
          clear C3 hT7 hM7 hEw6 hfin hb7
          go_wp2
          go_ret
          exact HFIN.out
        · have hne : (ee != 0) = true := by simpa using hee
          have HFIN := Lib.hid (BAD.out (.inr hee))
          clear hq hg hT6 hD6 hA6 hEw6 BAD hee
          go_wp2_with (refine wpList_store_row rfl 47 (.tmp 10) (.tmp 43) rfl w5.heap.size _ rfl rfl 47 _ HNew6.out H17.out hhid.out HC1.out ?_; rw [HSET6.out])
          go_ret
          exact HFIN.out
  · have hne : (rightN n != 0) = true := by simpa using hr
    have e : addE M n = rightN n := by unfold addE; rw [if_pos hr]
    have e2 : addM M n = M := by unfold addM; rw [if_neg (by rw [e]; exact hr)]
    have E1 := Lib.hid e
    have E2 := Lib.hid e2
    clear hr e e2
    go_enter Tryz.func40, Tryz.ntmps40
    go_wp2_with (refine wpList_load_row rfl 47 (.tmp 3) rfl w.heap.size rfl 47 _ (0, 0) _ HNW.out Tryz.underlying47 rfl sizeNd ?_)
    refine CR.out.mono ?_
    rintro e w3 ⟨rfl, hb3⟩
    rw [← HW2.out] at hb3
    have hfin : TreeTo S w bt (addM M n) (N + 1) (.int .i64 (addE M n)) (.returned (.int .i64 (rightN n))) w3 := by
      rw [E1.out, E2.out]
      exact treeTo_same HTW.out (he2.trans hb3) (by omega) _
    have HFIN := Lib.hid hfin
    clear hfin CR hb3 hT2 hD2 hA2 HN HNW HW2 hu2
    go_wp2
    go_ret
    exact HFIN.out
end Go.Proofs.YtamolbegmkngdaaGreatDoor
namespace Go.Proofs.YtamolbegmkngdaaGreatDoor
open Go.RowKit
set_option maxHeartbeats 2000000
set_option maxRecDepth 100000

theorem NodesAt.del {S : Nat → Prop} {w w' : World} {bn : Nat} {M : List (Key × Nd)} {N : Nat} (h : NodesAt S w bn M N) {k : Key} {m : List (Key × Value)} (hr : Rel2 (fun n v => NdS S w v n) M m)
    (hs : SMap Tryz.prog 9 w' bn (mdel m k)) (hT : w.mapTurned w' bn) : NodesAt S w' bn (mdel M k) N := by
  have hc : ∀ (b o : Nat) u, S b → w.cell? ⟨b, o, none⟩ = some u → w'.cell? ⟨b, o, none⟩ = some u := fun b o u _ hu => (Mod.turned (S := fun _ => True) hT trivial).cell hu
  exact ⟨⟨_, hs, (hr.mdel k).imp fun _ _ _ hx => hx.imp (fun _ h => h) hc⟩, h.ok.del k, Nat.le_trans (List.length_filter_le _ _) h.len⟩

theorem apart_key {K : List (Key × Nat)} (h : K.Pairwise fun x y => x.2 ≠ y.2) {k : Key} {b : Nat} (hm : (k, b) ∈ K) {x : Key × Nat} (hx : x ∈ K) (e : x.2 = b) : x.1 = k := by
  obtain ⟨i, hi, ei⟩ := List.getElem_of_mem hx
  obtain ⟨j, hj, ej⟩ := List.getElem_of_mem hm
  have hp := List.pairwise_iff_getElem.1 h
  have : i = j := by
    rcases Nat.lt_trichotomy i j with hlt | he | hlt
    · exact absurd (by rw [ei, ej]; exact e) (hp i j hi hj hlt)
    · exact he
    · exact absurd (by rw [ei, ej]; exact e.symm) (hp j i hj hi hlt)
  subst this
  rw [ei] at ej
  rw [ej]

theorem kidsV_mem {K : List (Key × Nat)} (h : MSorted (kidsV K)) {x : Key × Nat} (hx : x ∈ K) : mget K x.1 = some x.2 := by
  have := mget_of_mem h (k := x.1) (v := .map (some x.2)) (List.mem_map.2 ⟨x, hx, rfl⟩)
  rw [kidsV_get] at this
  cases hg : mget K x.1 with
  | none => rw [hg] at this; cases this
  | some b => rw [hg] at this; simpa using this

/-- A node without children is struck: its own map goes, its name goes out of its parent's. -/
theorem KidsAt.del {S : Nat → Prop} {w w1 w2 w3 : World} {bn bk : Nat} {K : List (Key × Nat)} {M : List (Key × Nd)} {N : Nat} (h : KidsAt S w bn bk K M N) (hM : MOk M) {n : Nd} (hg : mget M (keyN n) = some n) (hroot : n.path.size ≠ 1) (hno : kidsOf M n.path = [])
    {b : Nat} (hb : mget K (parentB n.path).data.toList = some b) (hne : bn ≠ bk)
    (hT1 : w.mapTurned w1 bn) (hT2 : w1.mapTurned w2 bk) (hs2 : SMap Tryz.prog 9 w2 bk (mdel (kidsV K) (keyN n)))
    (hT3 : w2.mapTurned w3 b) (hs3 : SMap Tryz.prog 9 w3 b (mdel (kidsOf M (parentB n.path)) (nameB n.path).data.toList)) :
    KidsAt S w3 bn bk (mdel K (keyN n)) (mdel M (keyN n)) N := by
  have hr := (hM.at hg).2
  have hmem := mget_some_mem hb
  have hE := h.each _ hmem
  have hc : childOf (parentB n.path) n = true := childOf_iff.2 ⟨hroot, rfl⟩
  have hoth : ∀ p, p ≠ parentB n.path → kidsOf (mdel M (keyN n)) p = kidsOf M p := fun p hp => by
    rw [kids_del hM hg p, if_neg (fun hc => hp (childOf_iff.1 hc).2.symm)]
  have hsort := SMap.sorted (Maps.string_keyed strT) h.map
  refine ⟨?_, Nat.le_trans (List.length_filter_le _ _) h.len, fun x hx => ?_, h.apart.filter _, fun p hp => ?_⟩
  · unfold kidsV
    rw [mdel_map (fun b => Value.map (some b))]
    exact hs2.keep (turned_other hT3 hE.2.2.1.symm)
  · obtain ⟨hx, hxk⟩ := mem_mdel.1 hx
    obtain ⟨h1, h2, h3, h4⟩ := h.each x hx
    refine ⟨h1, h2, h3, ?_⟩
    by_cases e : x.2 = b
    · have hk := apart_key h.apart hmem hx e
      rw [hk, key_bytes, kids_del hM hg, if_pos hc, e]
      exact hs3
    · rw [hoth _ (fun e1 => e (by
        have : x.1 = (parentB n.path).data.toList := by rw [← e1, key_back]
        have h5 := kidsV_mem hsort hx
        rw [this, hb] at h5
        exact (Option.some.inj h5).symm))]
      exact h4.keep ((turned_other hT3 e).trans ((turned_other hT2 h3).trans (turned_other hT1 h2)))
  · by_cases e : p = n.path
    · rw [e, kids_del hM hg]
      split
      · rw [hno]; rfl
      · exact hno
    · by_cases e2 : p = parentB n.path
      · exfalso
        refine mget_none hp ((parentB n.path).data.toList, b) (mem_mdel.2 ⟨hmem, fun e3 => ?_⟩) (by rw [e2])
        exact e (e2.trans (ba_ext e3))
      · rw [hoth p e2]
        refine h.rest p (mget_none_of fun x hx e3 => ?_)
        exact mget_none hp x (mem_mdel.2 ⟨hx, fun e4 => e (ba_ext (e3.symm.trans e4))⟩) e3

/-- What Remove answers, and what it makes of the nodes. -/
def remE (M : List (Key × Nd)) (s : ByteArray) : Int :=
  if ¬ (vpath s = true ∧ s.size ≠ 1) then 30 else if mget M s.data.toList = none then 70 else if (kidsOf M s).length ≠ 0 then 72 else 0
def remM (M : List (Key × Nd)) (s : ByteArray) : List (Key × Nd) := if remE M s = 0 then mdel M s.data.toList else M

theorem run_len_nil_map {P : Program} (w : World) (t k e ty : TypeId) (h : P.underlying t = some (.map k e)) : (Builtin.len_ #[t] ty #[.map none]).run P w = .ok (.int .i64 0) w := by
  simp [Builtin.len_, run_underlying h, goInt, Result.andThen]

/-- What Remove leaves: the tree in the blocks that it had. -/
def RemTo (S : Nat → Prop) (w : World) (bt : Nat) (M' : List (Key × Nd)) (N' : Nat) (v : Value) (e : Ending) (w' : World) : Prop :=
  e = .returned v ∧ TreeAt S w' bt M' N' ∧ Mod S w w'
theorem remTo_same {S : Nat → Prop} {w w' : World} {bt : Nat} {M : List (Key × Nd)} {N : Nat} (hT : TreeAt S w bt M N) (hE : Ext w w') (v : Value) : RemTo S w bt M N v (.returned v) w' := ⟨rfl, hT.ext hE, Mod.of_ext hE⟩

theorem rem_to (S : Nat → Prop) (w : World) (bt : Nat) (M : List (Key × Nd)) (N : Nat) (hT : TreeAt S w bt M N) (s : ByteArray) (hs : s.size ≤ 9223372036854775800) (hN : N < 4611686018427387904) :
    Calls Tryz.prog 42 #[.pointer (some ⟨bt, 0, none⟩), .string s] w (RemTo S w bt (remM M s) N (.int .i64 (remE M s))) := by
  have CP := parent_any s w hs
  have HTW := Lib.hid hT
  by_cases hvr : vpath s = true ∧ s.size ≠ 1
  · have hps : s.size ≤ maxLen := by
      have := (vpath_facts hvr.1).2.1
      unfold maxLen; omega
    have hsp := path_split hvr.1 hvr.2
    have hpp : (parentB s).size ≤ maxLen := by
      have := hsp.2.2.1
      omega
    have hns : (nameB s).size ≤ maxLen := by
      have h1 : (nameB s).size ≤ s.size := by unfold nameB; rw [ByteArray.size_extract]; omega
      omega
    rw [show parV s = .tuple #[.string (parentB s), .int .i64 0] by unfold parV; rw [if_pos hvr]] at CP
    have CN := fun w => name_any s w hs
    rw [show namV s = .tuple #[.string (nameB s), .int .i64 0] by unfold namV; rw [if_pos hvr.1]] at CN
    have HVR := Lib.hid hvr
    have CN := Lib.hid CN
    have CP := Lib.hid CP
    clear hvr hsp
    go_enter Tryz.func42, Tryz.ntmps42
    go_wp2_with fail
    refine CP.out.mono ?_
    rintro e w5 ⟨rfl, hb5⟩
    have hE5 : Ext w w5 := hb5
    have hT5 := hT.ext hE5
    have hok := hT.ok
    obtain ⟨bn, bk, K, hd, hNd, hKd⟩ := hT5
    have hT5 : TreeAt S w5 bt M N := ⟨bn, bk, K, hd, hNd, hKd⟩
    have hbox := TreeAt.box hd
    obtain ⟨cs, ⟨hc17, hc1⟩, hq, hq2, _⟩ := hNd.look s hps
    clear hq2
    have hsz17 : (Tryz.prog.info? 47).map (·.size) = some cs.size := by rw [hc17]; exact sizeNd
    have hzs : zeroNd.size = cs.size := by rw [hc17]; rfl
    obtain ⟨W6, hW6⟩ : ∃ W6, W6 = w5.alloc (.cells cs 47) := ⟨_, rfl⟩
    have HSET6 := Lib.hid ((setRow_alloc w5 zeroNd cs 47).trans hW6.symm)
    have HNew6 := Lib.hid (heap_alloc_new w5 (.cells zeroNd 47))
    have hE6 : Ext w5 W6 := by rw [hW6]; exact Ext.alloc _ _
    have hEw6 := hE5.trans hE6
    have hhid : Hid (zeroNd.size = cs.size) := hzs
    unfold zeroNd at HSET6 HNew6
    unfold Box treeC at hbox
    have HC1 := Lib.hid hc1
    have H17 := Lib.hid hsz17
    clear hW6 hzs hc1 hc17 hsz17 CP hb5
    cases hg : mget M s.data.toList with
    | none =>
      rw [hg] at hq
      have hq' : (Instr.lookup 115 (.map (some bn)) (.string s) true).run Tryz.prog w5 = .ok (.tuple #[.agg cs, .bool false]) w5 := hq
      have hfin : RemTo S w bt (remM M s) N (.int .i64 (remE M s)) (.returned (.int .i64 70)) W6 := by
        have e : remE M s = 70 := by unfold remE; rw [if_neg (fun h => h HVR.out), if_pos hg]
        have e2 : remM M s = M := by unfold remM; rw [if_neg (by rw [e]; decide)]
        rw [e, e2]
        exact remTo_same HTW.out hEw6 _
      have HFIN := Lib.hid hfin
      clear hq hg hfin hE5 hE6 hEw6 hT hT5 hd hNd hKd hok
      go_wp2_with (refine wpList_store_row rfl 47 (.tmp 7) (.tmp 27) rfl w5.heap.size _ rfl rfl 47 _ HNew6.out H17.out hhid.out HC1.out ?_; rw [HSET6.out])
      go_ret
      exact HFIN.out
    | some n =>
      rw [hg] at hq
      have hq' : (Instr.lookup 115 (.map (some bn)) (.string s) true).run Tryz.prog w5 = .ok (.tuple #[.agg cs, .bool true]) w5 := hq
      obtain ⟨hkey, hrn⟩ := hok.at hg
      obtain rfl : s = n.path := ba_ext hkey
      have hT6 := hT5.ext hE6
      clear hd hNd hKd hT5
      obtain ⟨bn', bk', K', hd, hNd, hKd⟩ := hT6
      have ebn : bn' = bn ∧ bk' = bk := by
        have h1 := hd.blk
        have h2 : W6.cell? ⟨bt, 0, none⟩ = some (.map (some bn)) := (hE6.cell (p := ⟨bt, 0, none⟩) (by have := hT.bound bt; have := hE5.size; obtain ⟨_, _, _, hd0, _⟩ := hT; have := hd0.bound _ hd0.st; show bt < _; omega)).trans (hbox 0)
        have h3 : W6.cell? ⟨bt, 1, none⟩ = some (.map (some bk)) := (hE6.cell (p := ⟨bt, 1, none⟩) (by have := hE5.size; obtain ⟨_, _, _, hd0, _⟩ := hT; have := hd0.bound _ hd0.st; show bt < _; omega)).trans (hbox 1)
        rw [cell_of_row _ _ _ _ _ _ h1] at h2 h3
        simp [treeC] at h2 h3
        exact ⟨h2, h3⟩
      obtain ⟨rfl, rfl⟩ := ebn
      have hbox6 := TreeAt.box hd
      have hl6 := SMap.look (e := 161) hKd.map strT Tryz.underlying116 (z := .map none) (by kernel_rfl) hps
      have hln : ∀ ty, (Builtin.len_ #[161] ty #[(mget (kidsV K') n.path.data.toList).getD (.map none)]).run Tryz.prog W6 = .ok (.int .i64 (kidsOf M n.path).length) W6 := fun ty => by
        rw [kidsV_get]
        cases hgk : mget K' n.path.data.toList with
        | none =>
          rw [hKd.rest n.path hgk]
          exact run_len_nil_map W6 _ _ _ ty Tryz.underlying161
        | some b' =>
          have h4 := (hKd.each _ (mget_some_mem hgk)).2.2.2
          rw [key_bytes] at h4
          exact h4.len Tryz.underlying161 ty
      generalize (mget (kidsV K') n.path.data.toList).getD (.map none) = kv at hl6 hln
      unfold Box treeC at hbox6
      have HG := Lib.hid hg
      clear hq hg hkey
      by_cases hk0 : (kidsOf M n.path).length = 0
      · have hno : kidsOf M n.path = [] := List.eq_nil_of_length_eq_zero hk0
        have hd0 : decide ((0 : Int) < ((kidsOf M n.path).length : Int)) = false := by rw [hk0]; decide
        have hpar : ∃ b, mget K' (parentB n.path).data.toList = some b := by
          cases hgp : mget K' (parentB n.path).data.toList with
          | some b => exact ⟨b, rfl⟩
          | none =>
            have h1 := hKd.rest _ hgp
            have h2 : (nameK n, Value.agg #[]) ∈ kidsOf M (parentB n.path) := mem_kids.2 ⟨_, mget_some_mem HG.out, childOf_iff.2 ⟨HVR.out.2, rfl⟩, rfl⟩
            rw [h1] at h2; simp at h2
        obtain ⟨b, hgb⟩ := hpar
        have hEb := hKd.each _ (mget_some_mem hgb)
        have HGB := Lib.hid hgb
        have HNO := Lib.hid hno
        have HKD := Lib.hid hKd
        have HND := Lib.hid hNd
        have HHD := Lib.hid hd
        have HE := Lib.hid hEw6
        have hz6 : decide ((0 : Int) < 0) = false := by decide
        rw [hk0] at hln
        clear hk0 hno hd0 hgb hd hNd hKd hEw6 hE5 hE6 hT hok
        go_wp2_with (refine wpList_store_row rfl 47 (.tmp 7) (.tmp 27) rfl w5.heap.size _ rfl rfl 47 _ HNew6.out H17.out hhid.out HC1.out ?_; rw [HSET6.out])
        refine (CN.out _).mono ?_
        rintro e w7 ⟨rfl, hb7⟩
        have hE7 : Ext W6 w7 := hb7
        have hd7 : Hd S w7 bt bn' bk' := HHD.out.keep (hE7.block _ (HHD.out.bound _ HHD.out.st)) (fun _ h => h) (fun k h => Nat.lt_of_lt_of_le (HHD.out.bound k h) hE7.size)
        have hN7 : NodesAt S w7 bn' M N := HND.out.keep (hE7.block _ (HHD.out.bound _ HHD.out.sn)) (fun _ h => h) (fun b o u hb hu => (hE7.cell (p := ⟨b, o, none⟩) (HHD.out.bound b hb)).trans hu) (Nat.le_refl _)
        have hK7 : KidsAt S w7 bn' bk' K' M N := HKD.out.keep (hE7.block _ (HHD.out.bound _ HHD.out.sk)) (fun _ h => h) (fun x hx => hE7.block _ (HHD.out.bound _ (HKD.out.each x hx).1)) (Nat.le_refl _)
        have hEw7 := HE.out.trans hE7
        clear CN HHD HND HKD HE hb7 hE7 HSET6 HNew6 H17 hhid HC1 hbox hbox6 hq' hl6 hln hz6
        obtain ⟨m7, hm7, hr7⟩ := hN7.ex
        have hx7 := TreeAt.box hd7
        have hst1 : ∀ w8 : World, w7.mapTurned w8 bn' → Box w8 bt (treeC bn' bk') ∧ SMap Tryz.prog 9 w8 bk' (kidsV K') := fun w8 ht8 =>
          ⟨fun j => cell_of_row _ _ _ _ _ _ ((Mod.turned (S := S) ht8 hd7.sn).cells hd7.blk), hK7.map.keep (turned_other ht8 hd7.ne.symm)⟩
        have hst2 : ∀ w8 w9 : World, w7.mapTurned w8 bn' → w8.mapTurned w9 bk' → SMap Tryz.prog 9 w9 bk' (mdel (kidsV K') n.path.data.toList) →
            Box w9 bt (treeC bn' bk') ∧ SMap Tryz.prog 9 w9 b (kidsOf M (parentB n.path)) ∧
            (Instr.lookup 116 (.map (some bk')) (.string (parentB n.path)) false).run Tryz.prog w9 = .ok (.map (some b)) w9 := fun w8 w9 ht8 ht9 hs9 => by
          refine ⟨fun j => cell_of_row _ _ _ _ _ _ (((Mod.turned (S := S) ht8 hd7.sn).trans (Mod.turned ht9 hd7.sk)).cells hd7.blk), ?_, ?_⟩
          · have h4 := hEb.2.2.2
            rw [key_bytes] at h4
            have h5 := (hK7.each _ (mget_some_mem HGB.out)).2.2.2
            rw [key_bytes] at h5
            exact h5.keep ((turned_other ht9 hEb.2.2.1).trans (turned_other ht8 hEb.2.1))
          · have h6 := SMap.look (e := 161) hs9 strT Tryz.underlying116 (z := .map none) (by kernel_rfl) hpp
            have hsrt := mdel_sorted (SMap.sorted (Maps.string_keyed strT) hK7.map) n.path.data.toList
            have hlt := (path_split HVR.out.1 HVR.out.2).2.2.1
            rw [mget_of_mem (v := .map (some b)) hsrt (mem_mdel.2 ⟨List.mem_map.2 ⟨_, mget_some_mem HGB.out, rfl⟩, fun e => by
              have := congrArg List.length e
              rw [size_list, size_list] at this
              omega⟩)] at h6
            exact h6
        have hfin : ∀ w8 w9 w10 : World, w7.mapTurned w8 bn' → SMap Tryz.prog 9 w8 bn' (mdel m7 n.path.data.toList) → w8.mapTurned w9 bk' → SMap Tryz.prog 9 w9 bk' (mdel (kidsV K') n.path.data.toList) →
            w9.mapTurned w10 b → SMap Tryz.prog 9 w10 b (mdel (kidsOf M (parentB n.path)) (nameB n.path).data.toList) →
            RemTo S w bt (remM M n.path) N (.int .i64 (remE M n.path)) (.returned (.int .i64 0)) w10 := fun w8 w9 w10 ht8 hs8 ht9 hs9 ht10 hs10 => by
          have e : remE M n.path = 0 := by
            unfold remE
            rw [if_neg (fun h => h HVR.out), if_neg (by rw [HG.out]; simp), if_neg (by rw [HNO.out]; simp)]
          have e2 : remM M n.path = mdel M n.path.data.toList := by unfold remM; rw [if_pos e]
          have hM : Mod S w7 w10 := ((Mod.turned ht8 hd7.sn).trans (Mod.turned ht9 hd7.sk)).trans (Mod.turned ht10 hEb.1)
          have hM9 : Mod S w8 w10 := (Mod.turned ht9 hd7.sk).trans (Mod.turned ht10 hEb.1)
          have hz10 : w10.heap.size = w7.heap.size := by rw [turned_size ht10, turned_size ht9, turned_size ht8]
          have hd10 : Hd S w10 bt bn' bk' := ⟨hM.cells hd7.blk, hd7.st, hd7.sn, hd7.sk, hd7.ne, fun k h => by rw [hz10]; exact hd7.bound k h⟩
          have hN8 : NodesAt S w8 bn' (mdel M n.path.data.toList) N := hN7.del hr7 hs8 ht8
          have hN10 : NodesAt S w10 bn' (mdel M n.path.data.toList) N := hN8.keep ((turned_other ht10 hEb.2.1.symm).trans (turned_other ht9 hd7.ne)) (fun _ h => h) (fun b o u _ hu => hM9.cell hu) (Nat.le_refl _)
          have hK10 := hK7.del hN7.ok HG.out HVR.out.2 HNO.out HGB.out hd7.ne ht8 ht9 hs9 ht10 hs10
          have hT10 : TreeAt S w10 bt (mdel M n.path.data.toList) N := ⟨bn', bk', _, hd10, hN10, hK10⟩
          rw [e, e2]
          exact ⟨rfl, hT10, (Mod.of_ext hEw7).trans hM⟩
        have H1 := Lib.hid hst1
        have H2 := Lib.hid hst2
        have H3 := Lib.hid hfin
        unfold Box treeC at hx7
        clear hst1 hst2 hfin hd7 hN7 hK7 hEw7 hEb hr7
        go_wp2_with (first | (refine wpList_del _ rfl (.tmp 47) (.tmp 48) 115 9 47 rfl strT Tryz.underlying115 bn' _ hm7 rfl n.path hps rfl ?_; intro w8 hs8 ht8; have hq8 := H1.out w8 ht8; have hx8 := hq8.1; have hm8 := hq8.2; unfold Box treeC at hx8; clear hq8 hx7 hm7) | (refine wpList_del _ rfl (.tmp 52) (.tmp 53) 116 9 161 rfl strT Tryz.underlying116 bk' _ hm8 rfl n.path hps rfl ?_; intro w9 hs9 ht9; have hq9 := H2.out w8 w9 ht8 ht9 hs9; have hx9 := hq9.1; have hm9 := hq9.2.1; have hl9 := hq9.2.2; unfold Box treeC at hx9; clear hq9 hx8 hm8) | (refine wpList_del _ rfl (.tmp 59) (.tmp 60) 161 9 180 rfl strT Tryz.underlying161 b _ hm9 rfl (nameB n.path) hns rfl ?_; intro w10 hs10 ht10))
        go_ret
        exact H3.out w8 w9 w10 ht8 hs8 ht9 hs9 ht10 hs10
      · have hpos : 0 < (kidsOf M n.path).length := by omega
        have hfin : RemTo S w bt (remM M n.path) N (.int .i64 (remE M n.path)) (.returned (.int .i64 72)) W6 := by
          have e : remE M n.path = 72 := by
            unfold remE
            rw [if_neg (fun h => h HVR.out), if_neg (by rw [HG.out]; simp), if_pos hk0]
          have e2 : remM M n.path = M := by unfold remM; rw [if_neg (by rw [e]; decide)]
          rw [e, e2]
          exact remTo_same HTW.out hEw6 _
        have HFIN := Lib.hid hfin
        clear hk0 hfin hE5 hE6 hEw6 hT hd hNd hKd hok
        go_wp2_with (refine wpList_store_row rfl 47 (.tmp 7) (.tmp 27) rfl w5.heap.size _ rfl rfl 47 _ HNew6.out H17.out hhid.out HC1.out ?_; rw [HSET6.out])
        go_ret
        exact HFIN.out
  · rw [show parV s = .tuple #[.string ⟨#[]⟩, .int .i64 30] by unfold parV; rw [if_neg hvr]] at CP
    have hfin : ∀ w3, Ext w w3 → RemTo S w bt (remM M s) N (.int .i64 (remE M s)) (.returned (.int .i64 30)) w3 := fun w3 hE => by
      have e : remE M s = 30 := by unfold remE; rw [if_pos hvr]
      have e2 : remM M s = M := by unfold remM; rw [if_neg (by rw [e]; decide)]
      rw [e, e2]
      exact remTo_same HTW.out hE _
    have HFIN := Lib.hid hfin
    have CP := Lib.hid CP
    clear hvr hfin hT
    go_enter Tryz.func42, Tryz.ntmps42
    go_wp2_with fail
    refine CP.out.mono ?_
    rintro e w3 ⟨rfl, hb3⟩
    clear CP
    go_wp2
    go_ret
    exact HFIN.out w3 hb3

theorem rem_any (S : Nat → Prop) (w : World) (bt : Nat) (M : List (Key × Nd)) (N : Nat) (hT : TreeAt S w bt M N) (s : ByteArray) (hs : s.size ≤ 9223372036854775800) (hN : N < 4611686018427387904) :
    Calls Tryz.prog 42 #[.pointer (some ⟨bt, 0, none⟩), .string s] w (TreeTo S w bt (remM M s) N (.int .i64 (remE M s))) :=
  (rem_to S w bt M N hT s hs hN).mono fun e w' ⟨h1, h2, h3⟩ =>
    ⟨h1, h2.keep (fun _ _ => rfl) (fun _ h => .inl h) (fun k hk => hk.elim (fun h => h2.bound k h) (fun h => h.2)) (Nat.le_refl _), h3⟩
end Go.Proofs.YtamolbegmkngdaaGreatDoor
namespace Go.Proofs.YtamolbegmkngdaaGreatDoor
open Go.RowKit
set_option maxHeartbeats 1000000

theorem before_prefix (a b : List UInt8) (hb : b ≠ []) : bytesBefore a (a ++ b) = true := by
  induction a with
  | nil => cases b with
    | nil => exact absurd rfl hb
    | cons x b => rfl
  | cons x a ih => simp [bytesBefore, ih]

/-- A child comes after its parent. -/
theorem parent_before {s : ByteArray} (h : vpath s = true) (h1 : s.size ≠ 1) : bytesBefore (parentB s).data.toList s.data.toList = true := by
  obtain ⟨e, hn, _, _⟩ := path_split h h1
  have hn' : (nameB s).data.toList ≠ [] := fun e => hn (by rw [← size_list, e]; rfl)
  rw [e]
  unfold preL
  split
  · exact before_prefix _ _ hn'
  · rw [List.append_assoc]
    exact before_prefix _ _ (by simp)

theorem before_asymm : ∀ {a b : List UInt8}, bytesBefore a b = true → bytesBefore b a = true → False
  | [], [], h, _ => by simp [bytesBefore] at h
  | [], _ :: _, _, h => by simp [bytesBefore] at h
  | _ :: _, [], h, _ => by simp [bytesBefore] at h
  | x :: a, y :: b, h, k => by
    simp only [bytesBefore, Bool.or_eq_true, Bool.and_eq_true, decide_eq_true_eq, beq_iff_eq] at h k
    rcases h with h | ⟨rfl, h⟩
    · rcases k with k | ⟨rfl, k⟩
      · exact absurd h (UInt8.lt_asymm k)
      · exact absurd h (UInt8.lt_irrefl _)
    · rcases k with k | ⟨_, k⟩
      · exact absurd k (UInt8.lt_irrefl _)
      · exact before_asymm h k

theorem MOk.take {M : List (Key × Nd)} (h : MOk M) (m : Nat) : MOk (M.take m) :=
  ⟨List.Pairwise.sublist (List.take_sublist m M) h.sorted, fun x hx => h.key x (List.mem_of_mem_take hx), fun x hx => h.right x (List.mem_of_mem_take hx)⟩

theorem sorted_at {M : List (Key × Nd)} (h : MSorted M) {i j : Nat} (hij : i < j) (hj : j < M.length) : bytesBefore (M[i]'(by omega)).1 M[j].1 = true := List.pairwise_iff_getElem.1 h i j (by omega) hj hij

theorem cut_kids {M : List (Key × Nd)} (hM : MOk M) {k : Nat} (hk : k < M.length) : kidsOf (M.take (k + 1)) (M[k].2.path) = [] := by
  unfold kidsOf
  rw [List.map_eq_nil_iff, List.filter_eq_nil_iff]
  intro x hx hc
  obtain ⟨h1, h2⟩ := childOf_iff.1 hc
  have hxM := List.mem_of_mem_take hx
  have hb := parent_before (right_vpath (hM.right x hxM)) h1
  rw [h2] at hb
  obtain ⟨i, hi, e⟩ := List.getElem_of_mem hx
  simp only [List.length_take] at hi
  rw [List.getElem_take] at e
  have ek := hM.key x hxM
  have ek2 := hM.key M[k] (List.getElem_mem hk)
  unfold keyN at ek ek2
  rw [← ek, ← ek2] at hb
  by_cases hik : i = k
  · subst hik
    rw [e] at hb
    exact before_asymm hb hb
  · have := sorted_at hM.sorted (i := i) (j := k) (by omega) hk
    rw [e] at this
    exact before_asymm this hb

theorem root_first {M : List (Key × Nd)} (hM : MOk M) (h : mget M [47] ≠ none) : ∃ h0 : 0 < M.length, (M[0]'h0).1 = [47] := by
  cases hg : mget M [47] with
  | none => exact absurd hg h
  | some n =>
    obtain ⟨i, hi, e⟩ := List.getElem_of_mem (mget_some_mem hg)
    refine ⟨by omega, ?_⟩
    by_cases h0 : i = 0
    · subst h0; rw [e]
    · exfalso
      have hb := sorted_at hM.sorted (i := 0) (j := i) (by omega) hi
      rw [e] at hb
      have hv := vpath_facts (right_vpath (hM.right _ (List.getElem_mem (show 0 < M.length by omega))))
      rw [hM.key _ (List.getElem_mem (show 0 < M.length by omega))] at hb
      obtain ⟨h1, _, h47, _⟩ := hv
      unfold keyN at hb
      have hs : 0 < (M[0]'(by omega)).2.path.data.toList.length := by rw [size_list]; omega
      cases hl : (M[0]'(by omega)).2.path.data.toList with
      | nil => rw [hl] at hs; simp at hs
      | cons x r =>
        have hx : x = 47 := by
          have := (bat_toList _ 0 (by omega)).2 h47
          simpa [hl] using this
        rw [hl, hx] at hb
        cases r <;> simp [bytesBefore] at hb

theorem path_one {n : Nd} (h : rightN n = 0) (h1 : n.path.size = 1) : keyN n = [47] := by
  obtain ⟨_, _, h47, _⟩ := vpath_facts (right_vpath h)
  unfold keyN
  have h2 := (bat_toList n.path 0 (by omega)).2 h47
  have hs : n.path.data.toList.length = 1 := by rw [size_list]; exact h1
  cases hl : n.path.data.toList with
  | nil => rw [hl] at hs; simp at hs
  | cons x r =>
    simp only [hl, List.getElem_cons_zero] at h2
    rw [hl] at hs
    simp at hs
    rw [h2, hs]

theorem cut_ne {M : List (Key × Nd)} (hM : MOk M) (h : mget M [47] ≠ none) {k : Nat} (hk0 : 0 < k) (hk : k < M.length) : M[k].2.path.size ≠ 1 := fun e => by
  obtain ⟨h0, hr⟩ := root_first hM h
  have h1 := path_one (hM.right _ (List.getElem_mem hk)) e
  rw [← hM.key _ (List.getElem_mem hk)] at h1
  have := sorted_at hM.sorted hk0 hk
  rw [hr, h1] at this
  exact before_asymm this this

theorem cut_del {M : List (Key × Nd)} (hM : MOk M) {k : Nat} (hk : k < M.length) : mdel (M.take (k + 1)) M[k].1 = M.take k := by
  unfold mdel
  rw [List.take_add_one, List.getElem?_eq_getElem hk, Option.toList_some, List.filter_append]
  have h1 : (M.take k).filter (fun x => !(x.1 == M[k].1)) = M.take k := by
    rw [List.filter_eq_self]
    intro x hx
    obtain ⟨i, hi, e⟩ := List.getElem_of_mem hx
    simp only [List.length_take] at hi
    rw [List.getElem_take] at e
    have := sorted_at hM.sorted (i := i) (j := k) (by omega) hk
    rw [e] at this
    simp only [Bool.not_eq_true', beq_eq_false_iff_ne, ne_eq]
    intro e2
    rw [e2] at this
    exact before_asymm this this
  rw [h1]
  simp

theorem cut_step {M : List (Key × Nd)} (hM : MOk M) (h : mget M [47] ≠ none) {k : Nat} (hk0 : 0 < k) (hk : k < M.length) : remM (M.take (k + 1)) M[k].2.path = M.take k := by
  have hkey := hM.key _ (List.getElem_mem hk)
  have hmem : (M[k].1, M[k].2) ∈ M.take (k + 1) := List.mem_of_getElem? (i := k) (by rw [List.getElem?_take, if_pos (by omega), List.getElem?_eq_getElem hk])
  have hg := mget_of_mem (hM.take (k + 1)).sorted hmem
  have e : remE (M.take (k + 1)) M[k].2.path = 0 := by
    unfold remE
    rw [if_neg (fun h' => h' ⟨right_vpath (hM.right _ (List.getElem_mem hk)), cut_ne hM h hk0 hk⟩), if_neg, if_neg]
    · rw [cut_kids hM hk]; simp
    · unfold keyN at hkey
      rw [← hkey, hg]; simp
  unfold remM
  rw [if_pos e]
  unfold keyN at hkey
  rw [← hkey]
  exact cut_del hM hk

theorem cut_none {M : List (Key × Nd)} (hM : MOk M) {k m : Nat} (hm : m ≤ k) (hk : k < M.length) : remM (M.take m) M[k].2.path = M.take m := by
  have hkey := hM.key _ (List.getElem_mem hk)
  have hg : mget (M.take m) M[k].2.path.data.toList = none := mget_none_of fun x hx e2 => by
    obtain ⟨i, hi, e⟩ := List.getElem_of_mem hx
    simp only [List.length_take] at hi
    rw [List.getElem_take] at e
    have := sorted_at hM.sorted (i := i) (j := k) (by omega) hk
    unfold keyN at hkey
    rw [e, e2, hkey] at this
    exact before_asymm this this
  have e : remE (M.take m) M[k].2.path ≠ 0 := by
    unfold remE
    rw [if_pos hg]
    split <;> decide
  unfold remM
  rw [if_neg e]

/-- One removal, from a tree that is cut down this far. -/
theorem cut_one {M : List (Key × Nd)} (hM : MOk M) (h : mget M [47] ≠ none) {k m : Nat} (hk0 : 0 < k) (hk : k < M.length) (hm : m ≤ k + 1) (hm1 : 1 ≤ m) : ∃ m', 1 ≤ m' ∧ m' ≤ k ∧ remM (M.take m) M[k].2.path = M.take m' := by
  by_cases e : m = k + 1
  · subst e
    exact ⟨k, hk0, Nat.le_refl _, cut_step hM h hk0 hk⟩
  · exact ⟨m, hm1, by omega, cut_none hM (by omega) hk⟩


theorem fromL_err : ∀ {L : List Nd} {i : Nat} {M : List (Key × Nd)} {e : Nat × Int}, fromL L i M = .error e → e.2 ≠ 0
  | [], _, _, _, h => by simp [fromL] at h
  | n :: l, i, M, e, h => by
    unfold fromL at h
    split at h
    · rename_i hr; cases h; exact hr
    · split at h
      · cases h; exact (by decide : (71 : Int) ≠ 0)
      · exact fromL_err h
theorem parL_err {M : List (Key × Nd)} : ∀ {L : List Nd} {i : Nat} {e : Nat × Int}, parL M L i = .error e → e.2 ≠ 0
  | [], _, _, h => by simp [parL] at h
  | n :: l, i, e, h => by
    unfold parL at h
    split at h
    · cases h; exact (by decide : (73 : Int) ≠ 0)
    · exact parL_err h
theorem fromN_err {L : List Nd} {e : Nat × Int} (h : fromN L = .error e) : e.2 ≠ 0 := by
  unfold fromN at h
  split at h
  · rename_i h1; cases h; exact fromL_err h1
  · split at h
    · cases h; decide
    · split at h
      · rename_i h1; cases h; exact parL_err h1
      · cases h
theorem fromN_root {L : List Nd} {M : List (Key × Nd)} (h : fromN L = .ok M) : mget M [47] ≠ none := by
  unfold fromN at h
  split at h
  · cases h
  · split at h
    · cases h
    · split at h
      · cases h
      · rename_i h1 _ _ _; cases h; exact h1
end Go.Proofs.YtamolbegmkngdaaGreatDoor
namespace Go.Proofs.YtamolbegmkngdaaGreatDoor
open Go.RowKit
set_option maxHeartbeats 1000000

/-- The steps from a path to the root: is s among them? -/
def undF : Nat → ByteArray → ByteArray → Bool
  | 0, p, s => p.data == s.data
  | f + 1, p, s => p.data == s.data || (p.size != 1 && undF f (parentB p) s)
def und (p s : ByteArray) : Bool := undF p.size p s

/-- Each node's parent is there. -/
def Clo (M : List (Key × Nd)) : Prop := ∀ x ∈ M, x.2.path.size ≠ 1 → ∃ y ∈ M, y.2.path = parentB x.2.path

theorem und_self (p : ByteArray) : und p p = true := by
  unfold und
  cases p.size <;> simp [undF]

theorem und_size {M : List (Key × Nd)} (hM : MOk M) (hc : Clo M) : ∀ (f : Nat) (x : Key × Nd), x ∈ M → ∀ s, undF f x.2.path s = true → s.size ≤ x.2.path.size
  | 0, x, _, s, h => by
    have : x.2.path = s := by
      simp only [undF, beq_iff_eq] at h
      exact ByteArray.ext h
    rw [this]; exact Nat.le_refl _
  | f + 1, x, hx, s, h => by
    simp only [undF, Bool.or_eq_true, beq_iff_eq, Bool.and_eq_true, bne_iff_ne, ne_eq] at h
    rcases h with h | ⟨h1, h⟩
    · have : x.2.path = s := ByteArray.ext h
      rw [this]; exact Nat.le_refl _
    · obtain ⟨y, hy, ey⟩ := hc x hx h1
      have := und_size hM hc f y hy s (by rw [ey]; exact h)
      have hs := (path_split (right_vpath (hM.right x hx)) h1).2.2.1
      rw [ey] at this
      omega

theorem MOk.pos {M : List (Key × Nd)} (hM : MOk M) {x : Key × Nd} (hx : x ∈ M) : 0 < x.2.path.size := by
  have := (vpath_facts (right_vpath (hM.right x hx))).1
  omega

theorem und_fuel {M : List (Key × Nd)} (hM : MOk M) (hc : Clo M) : ∀ (f g : Nat) (x : Key × Nd), x ∈ M → x.2.path.size ≤ f → x.2.path.size ≤ g → ∀ s, undF f x.2.path s = undF g x.2.path s
  | 0, _, x, hx, hf, _, s => by have := hM.pos hx; omega
  | _ + 1, 0, x, hx, _, hg, s => by have := hM.pos hx; omega
  | f + 1, g + 1, x, hx, hf, hg, s => by
    simp only [undF]
    by_cases h1 : x.2.path.size = 1
    · simp only [h1, bne_self_eq_false, Bool.false_and]
    · obtain ⟨y, hy, ey⟩ := hc x hx h1
      have hs := (path_split (right_vpath (hM.right x hx)) h1).2.2.1
      have e1 := und_fuel hM hc f g y hy (by rw [ey]; omega) (by rw [ey]; omega) s
      rw [ey] at e1
      rw [e1]

theorem und_one {M : List (Key × Nd)} (hM : MOk M) {x : Key × Nd} (hx : x ∈ M) (h1 : x.2.path.size = 1) (s : ByteArray) : und x.2.path s = (x.2.path.data == s.data) := by
  unfold und
  rw [h1]
  simp only [undF, h1, bne_self_eq_false, Bool.false_and, Bool.or_false]

theorem und_up {M : List (Key × Nd)} (hM : MOk M) (hc : Clo M) {x y : Key × Nd} (hx : x ∈ M) (hy : y ∈ M) (h1 : x.2.path.size ≠ 1) (ey : y.2.path = parentB x.2.path) (s : ByteArray) :
    und x.2.path s = (x.2.path.data == s.data || und y.2.path s) := by
  have hp := hM.pos hx
  have hs := (path_split (right_vpath (hM.right x hx)) h1).2.2.1
  obtain ⟨g, hg⟩ : ∃ g, x.2.path.size = g + 1 := ⟨x.2.path.size - 1, by omega⟩
  have e1 := und_fuel hM hc g y.2.path.size y hy (by rw [ey]; omega) (Nat.le_refl _) s
  have h2 : (x.2.path.size != 1) = true := by simpa using h1
  unfold und
  rw [hg]
  simp only [undF]
  rw [hg] at h2
  rw [hg, h2, ← ey, e1, Bool.true_and]

theorem und_le {M : List (Key × Nd)} (hM : MOk M) (hc : Clo M) {x : Key × Nd} (hx : x ∈ M) {s : ByteArray} (h : und x.2.path s = true) : s.size ≤ x.2.path.size := und_size hM hc _ x hx s h

section sums
variable {α β : Type}
theorem sum_add (l : List α) (a b : α → Nat) : (l.map fun x => a x + b x).sum = (l.map a).sum + (l.map b).sum := by
  induction l with
  | nil => rfl
  | cons x l ih => simp only [List.map_cons, List.sum_cons]; omega
theorem sum_zero (l : List α) (a : α → Nat) (h : ∀ x ∈ l, a x = 0) : (l.map a).sum = 0 := by
  induction l with
  | nil => rfl
  | cons x l ih => simp only [List.map_cons, List.sum_cons]; rw [h x (List.mem_cons_self ..), ih fun y hy => h y (List.mem_cons_of_mem _ hy)]
theorem sum_congr (l : List α) (a b : α → Nat) (h : ∀ x ∈ l, a x = b x) : (l.map a).sum = (l.map b).sum := by
  rw [List.map_congr_left h]
theorem sum_swap (l : List α) (m : List β) (a : α → β → Nat) : (l.map fun x => (m.map fun y => a x y).sum).sum = (m.map fun y => (l.map fun x => a x y).sum).sum := by
  induction l with
  | nil => exact (sum_zero m _ fun _ _ => rfl).symm
  | cons x l ih => simp only [List.map_cons, List.sum_cons]; rw [sum_add m (fun y => a x y), ih]
theorem sum_mul (l : List α) (a : α → Nat) (k : Nat) : k * (l.map a).sum = (l.map fun x => k * a x).sum := by
  induction l with
  | nil => rfl
  | cons x l ih => simp only [List.map_cons, List.sum_cons]; rw [Nat.mul_add, ih]
theorem sum_filter (l : List α) (p : α → Bool) (a : α → Nat) : ((l.filter p).map a).sum = (l.map fun x => if p x = true then a x else 0).sum := by
  induction l with
  | nil => rfl
  | cons x l ih =>
    rw [List.filter_cons]
    cases h : p x <;> simp [h, ih]
end sums

theorem mem_path {M : List (Key × Nd)} (hM : MOk M) {x y : Key × Nd} (hx : x ∈ M) (hy : y ∈ M) (h : x.2.path = y.2.path) : x = y := by
  have k1 : x.1 = y.1 := by rw [hM.key x hx, hM.key y hy]; unfold keyN; rw [h]
  rcases List.getElem_of_mem hx with ⟨i, hi, ei⟩
  rcases List.getElem_of_mem hy with ⟨j, hj, ej⟩
  rcases Nat.lt_trichotomy i j with hij | hij | hij
  · have := sorted_at hM.sorted hij hj
    rw [ei, ej, k1] at this
    exact (before_asymm this this).elim
  · subst hij; rw [← ei, ← ej]
  · have := sorted_at hM.sorted hij hi
    rw [ei, ej, k1] at this
    exact (before_asymm this this).elim

theorem sum_at {M : List (Key × Nd)} (hM : MOk M) {x : Key × Nd} (hx : x ∈ M) (a : Key × Nd → Nat) : (M.map fun c => if c.2.path = x.2.path then a c else 0).sum = a x := by
  obtain ⟨l, r, e⟩ := List.append_of_mem hx
  have hn : ∀ y, (y ∈ l ∨ y ∈ r) → y.2.path ≠ x.2.path := by
    intro y hy h
    have hyM : y ∈ M := by rw [e]; rcases hy with hy | hy <;> simp [hy]
    have hs := hM.sorted
    rw [e] at hs
    have k1 : y.1 = x.1 := by rw [hM.key x hx, hM.key y hyM]; unfold keyN; rw [h]
    have hs' := List.pairwise_append.1 hs
    rcases hy with hy | hy
    · have := hs'.2.2 y hy x (List.mem_cons_self ..)
      rw [k1] at this
      exact before_asymm this this
    · have := (List.pairwise_cons.1 hs'.2.1).1 y hy
      rw [k1] at this
      exact before_asymm this this
  rw [e, List.map_append, List.sum_append, List.map_cons, List.sum_cons, sum_zero l _ fun y hy => if_neg (hn y (.inl hy)), sum_zero r _ fun y hy => if_neg (hn y (.inr hy)), if_pos rfl]
  omega

def bN (b : Bool) : Nat := if b = true then 1 else 0
theorem und_split {M : List (Key × Nd)} (hM : MOk M) (hc : Clo M) {s : Key × Nd} (hs : s ∈ M) : ∀ (f : Nat) (x : Key × Nd), x ∈ M → x.2.path.size ≤ f →
    bN (und x.2.path s.2.path) = (if x.2.path = s.2.path then 1 else 0) + (M.map fun c => if childOf s.2.path c.2 = true then bN (und x.2.path c.2.path) else 0).sum
  | 0, x, hx, hf => by have := hM.pos hx; omega
  | f + 1, x, hx, hf => by
    have hsm : ∀ c ∈ M, childOf s.2.path c.2 = true → s.2.path.size < c.2.path.size := fun c hcM h => by
      obtain ⟨h1, h2⟩ := childOf_iff.1 h
      have := (path_split (right_vpath (hM.right c hcM)) h1).2.2.1
      rw [h2] at this
      exact this
    by_cases he : x.2.path = s.2.path
    · rw [if_pos he, sum_zero M _ fun c hcM => ?_, he, und_self]; rfl
      split
      · rename_i h
        have hb : und x.2.path c.2.path = false := by
          cases hb : und x.2.path c.2.path with
          | false => rfl
          | true =>
            have := und_le hM hc hx hb
            have := hsm c hcM h
            rw [he] at *
            omega
        rw [hb]; rfl
      · rfl
    · rw [if_neg he]
      have hd : (x.2.path.data == s.2.path.data) = false := by
        cases hb : (x.2.path.data == s.2.path.data) with
        | false => rfl
        | true => exact absurd (ByteArray.ext (beq_iff_eq.1 hb)) he
      by_cases h1 : x.2.path.size = 1
      · rw [und_one hM hx h1, hd, sum_zero M _ fun c hcM => ?_]; rfl
        split
        · rename_i h
          have hcs := (childOf_iff.1 h).1
          rw [und_one hM hx h1]
          cases hb : (x.2.path.data == c.2.path.data) with
          | false => rfl
          | true => rw [ByteArray.ext (beq_iff_eq.1 hb)] at h1; exact absurd h1 hcs
        · rfl
      · obtain ⟨y, hy, ey⟩ := hc x hx h1
        have hsz := (path_split (right_vpath (hM.right x hx)) h1).2.2.1
        have ih := und_split hM hc hs f y hy (by rw [ey]; omega)
        rw [und_up hM hc hx hy h1 ey, hd, Bool.false_or, ih]
        have hS := sum_at hM hx (fun c => if childOf s.2.path c.2 = true then 1 else 0)
        have hy' : (if y.2.path = s.2.path then 1 else 0) = (if childOf s.2.path x.2 = true then 1 else 0 : Nat) := by
          by_cases hq : y.2.path = s.2.path
          · rw [if_pos hq, if_pos (childOf_iff.2 ⟨h1, by rw [← ey]; exact hq⟩)]
          · rw [if_neg hq, if_neg fun h => hq (by rw [ey]; exact (childOf_iff.1 h).2)]
        rw [hy', ← hS, ← sum_add, Nat.zero_add]
        refine sum_congr M _ _ fun c hcM => ?_
        by_cases hch : childOf s.2.path c.2 = true
        · rw [if_pos hch, if_pos hch, if_pos hch, und_up hM hc hx hy h1 ey]
          by_cases hxc : c.2.path = x.2.path
          · have hb : und y.2.path c.2.path = false := by
              cases hb : und y.2.path c.2.path with
              | false => rfl
              | true =>
                have := und_le hM hc hy hb
                rw [hxc, ey] at this
                omega
            rw [if_pos hxc, hb, hxc]
            simp [bN]
          · have hb : (x.2.path.data == c.2.path.data) = false := by
              cases hb : (x.2.path.data == c.2.path.data) with
              | false => rfl
              | true => exact absurd (ByteArray.ext (beq_iff_eq.1 hb)).symm hxc
            rw [if_neg hxc, hb, Bool.false_or]
            omega
        · rw [if_neg hch, if_neg hch, if_neg hch]
          split <;> rfl

/-- What is under s, weighed. -/
def wtN (M : List (Key × Nd)) (s : ByteArray) (a : Nd → Nat) : Nat := ((M.filter fun x => und x.2.path s).map fun x => a x.2).sum
theorem wt_split {M : List (Key × Nd)} (hM : MOk M) (hc : Clo M) {s : Key × Nd} (hs : s ∈ M) (a : Nd → Nat) :
    wtN M s.2.path a = a s.2 + ((M.filter fun c => childOf s.2.path c.2).map fun c => wtN M c.2.path a).sum := by
  have h0 : ∀ t : ByteArray, wtN M t a = (M.map fun x => a x.2 * bN (und x.2.path t)).sum := fun t => by
    unfold wtN
    rw [sum_filter]
    refine sum_congr M _ _ fun x _ => ?_
    unfold bN
    split <;> simp
  have h1 : (M.map fun x => a x.2 * bN (und x.2.path s.2.path)).sum = (M.map fun x => (if x.2.path = s.2.path then a x.2 else 0) + (M.map fun c => if childOf s.2.path c.2 = true then a x.2 * bN (und x.2.path c.2.path) else 0).sum).sum := by
    refine sum_congr M _ _ fun x hx => ?_
    rw [und_split hM hc hs _ x hx (Nat.le_refl _), Nat.mul_add, sum_mul]
    congr 1
    · split <;> simp
    · refine sum_congr M _ _ fun c _ => ?_
      split <;> simp
  rw [h0, h1, sum_add, sum_at hM hs (fun x => a x.2), sum_swap, sum_filter]
  congr 1
  refine sum_congr M _ _ fun c _ => ?_
  by_cases h : childOf s.2.path c.2 = true
  · simp only [h, if_true]
    rw [h0]
  · simp only [h, if_false]
    exact sum_zero M _ fun _ _ => rfl

theorem fromL_mem : ∀ (L : List Nd) (i : Nat) (M M' : List (Key × Nd)), fromL L i M = .ok M' → ∀ x ∈ M', x ∈ M ∨ x.2 ∈ L
  | [], _, M, M', h, x, hx => by
    simp only [fromL, Except.ok.injEq] at h
    subst h; exact .inl hx
  | n :: l, i, M, M', h, x, hx => by
    simp only [fromL] at h
    split at h
    · cases h
    split at h
    · cases h
    rcases fromL_mem l _ _ _ h x hx with h' | h'
    · rcases mem_mput.1 h' with rfl | ⟨h', _⟩
      · exact .inr (List.mem_cons_self ..)
      · exact .inl h'
    · exact .inr (List.mem_cons_of_mem _ h')
theorem parL_mem {M : List (Key × Nd)} : ∀ (L : List Nd) (i : Nat), parL M L i = .ok () → ∀ n ∈ L, n.path.size ≠ 1 → mget M (parentB n.path).data.toList ≠ none
  | [], _, _, n, hn, _ => by simp at hn
  | m :: l, i, h, n, hn, h1 => by
    simp only [parL] at h
    split at h
    · cases h
    rename_i hm
    rcases List.mem_cons.1 hn with rfl | hn
    · exact fun h2 => hm ⟨h1, h2⟩
    · exact parL_mem l _ h n hn h1
theorem fromN_clo {L : List Nd} {M : List (Key × Nd)} (hM : MOk M) (h : fromN L = .ok M) : Clo M := by
  unfold fromN at h
  cases hf : fromL L 0 [] with
  | error e => rw [hf] at h; cases h
  | ok M1 =>
    rw [hf] at h
    simp only at h
    split at h
    · cases h
    cases hp : parL M1 L 0 with
    | error e => rw [hp] at h; cases h
    | ok u =>
      rw [hp] at h
      simp only [Except.ok.injEq] at h
      subst h
      intro x hx h1
      have hxL : x.2 ∈ L := by
        rcases fromL_mem L 0 [] _ hf x hx with h | h
        · simp at h
        · exact h
      have := parL_mem L 0 hp x.2 hxL h1
      cases hg : mget M1 (parentB x.2.path).data.toList with
      | none => exact absurd hg this
      | some n =>
        refine ⟨_, mget_some_mem hg, ?_⟩
        have := (hM.at hg).1
        unfold keyN at this
        exact (ba_ext this).symm

/-- A list that holds s and the children of each that it holds has all that is under s. -/
theorem und_closed {M : List (Key × Nd)} (hM : MOk M) (hc : Clo M) (s : ByteArray) (l : List ByteArray) (hs : s ∈ l) (hl : ∀ x ∈ M, x.2.path.size ≠ 1 → parentB x.2.path ∈ l → x.2.path ∈ l) :
    ∀ (f : Nat) (x : Key × Nd), x ∈ M → x.2.path.size ≤ f → und x.2.path s = true → x.2.path ∈ l
  | 0, x, hx, hf, _ => by have := hM.pos hx; omega
  | f + 1, x, hx, hf, h => by
    by_cases h1 : x.2.path.size = 1
    · rw [und_one hM hx h1] at h
      rw [ByteArray.ext (beq_iff_eq.1 h)]; exact hs
    · obtain ⟨y, hy, ey⟩ := hc x hx h1
      have hsz := (path_split (right_vpath (hM.right x hx)) h1).2.2.1
      rw [und_up hM hc hx hy h1 ey, Bool.or_eq_true] at h
      rcases h with h | h
      · rw [ByteArray.ext (beq_iff_eq.1 h)]; exact hs
      · exact hl x hx h1 (by rw [← ey]; exact und_closed hM hc s l hs hl f y hy (by rw [ey]; omega) h)

theorem und_child {M : List (Key × Nd)} (hM : MOk M) (hc : Clo M) {x y : Key × Nd} (hx : x ∈ M) (hy : y ∈ M) (h : childOf y.2.path x.2 = true) (s : ByteArray) (hu : und y.2.path s = true) : und x.2.path s = true := by
  obtain ⟨h1, h2⟩ := childOf_iff.1 h
  rw [und_up hM hc hx hy h1 h2.symm, hu, Bool.or_true]
end Go.Proofs.YtamolbegmkngdaaGreatDoor
