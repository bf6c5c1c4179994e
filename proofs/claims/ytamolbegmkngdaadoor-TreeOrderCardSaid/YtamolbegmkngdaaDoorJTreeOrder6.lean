/- The walks of Count, Get. A slice of nodes, opened. Plain laws: when two structs are equal, as the model has it. The walks of the reference's look whether two nodes are alike. The walk of stat.Same at two copies of a node. The step of a range over a map keyed by strings: the name is told to be among those that were left. A range over a function: a law in which the function says what holds of each value that it hands over, and the rounds say what they keep. The walk of Add. -/
import Derived.Test.YtamolbegmkngdaaDoorJTreeOrder5
import Derived.Test.YtamolbegmkngdaaDoorJTreeOrder2
import Derived.Test.YtamolbegmkngdaaDoorJTreeOrder3
import Derived.Maps.RangeWalk
import Derived.RangeFuncCalls
namespace Go.Proofs.YtamolbegmkngdaaDoor
open Go.RowKit
set_option maxHeartbeats 2000000
set_option maxRecDepth 100000

theorem results_cell_row2 {P : Program} {fn : Func} {p q : Tmp} {ty : TypeId} (h : fn.results = #[.cell p ty, .tmp q]) (tmps : Array Value) (w : World) (g : Nat) (t : TypeId) (cs : Array Value) (fr : Nat × Nat) (d : TypeDesc) (v : Value)
    (hp : tmps.getD p undef = .pointer (some ⟨g, 0, none⟩)) (hq : tmps.getD q undef = v) (hg : w.heap[g]? = some (.cells cs t fr))
    (hu : P.underlying ty = some d) (hd : (match d with | .struct _ | .array _ _ => true | _ => false) = true) (hi : (P.info? ty).map (·.size) = some cs.size) :
    (results fn tmps).run P w = .ok (.tuple #[.agg cs, v]) w := by
  have hp' : tmps[p]?.getD undef = .pointer (some ⟨g, 0, none⟩) := by simpa using hp
  have hq' : tmps[q]?.getD undef = v := by simpa using hq
  simp [results, h, hp', hq', asAddr, run_loadVar_row w g t ty cs fr d hg hu hd hi]

theorem TreeAt.box {S : Nat → Prop} {w : World} {bt bn bk : Nat} (hd : Hd S w bt bn bk) : Box w bt (treeC bn bk) := fun j => cell_of_row _ _ _ _ _ _ hd.blk

theorem tcount_any (S : Nat → Prop) (w : World) (bt : Nat) (M : List (Key × Nd)) (N : Nat) (hT : TreeAt S w bt M N) : Calls Tryd.prog 13 #[.pointer (some ⟨bt, 0, none⟩)] w fun e w' => e = .returned (.int .i64 M.length) ∧ w = w' := by
  obtain ⟨bn, bk, K, hd, hNd, hKd⟩ := hT
  obtain ⟨m, hm, hr⟩ := hNd.ex
  have hx := TreeAt.box hd
  have hlen := fun ty => hm.len (e := 37) Tryd.underlying64 ty
  have HL := Lib.hid hr.length
  unfold Box treeC at hx
  clear hm hr hd hNd hKd
  go_enter Tryd.func13, Tryd.ntmps13
  go_wp2
  go_ret
  exact ⟨by rw [HL.out]; rfl, rfl⟩

def zeroN : Nd := ⟨⟨#[]⟩, [], [], 0, 0, 0, 0, 0, 0, 0, 0, 0, 0, 0, false, 0, 0⟩
theorem zeroN_fit : Fit zeroN := ⟨by simp [zeroN, ByteArray.size], by simp [zeroN], by simp [zeroN], fun x hx => by simp [zeroN] at hx⟩
theorem zeroN_nds (S : Nat → Prop) (w : World) : NdS S w (.agg zeroNd) zeroN := ⟨none, 0, none, 0, rfl, fun j u h => by simp [zeroN] at h, fun j u h => by simp [zeroN, acCs] at h⟩

theorem NodesAt.look' {S : Nat → Prop} {w : World} {bn : Nat} {M : List (Key × Nd)} {N : Nat} (h : NodesAt S w bn M N) (s : ByteArray) (hs : s.size ≤ maxLen) :
    ∃ v, NdS S w v ((mget M s.data.toList).getD zeroN) ∧ (Instr.lookup 64 (.map (some bn)) (.string s) true).run Tryd.prog w = .ok (.tuple #[v, .bool (mget M s.data.toList).isSome]) w ∧
      (Instr.lookup 64 (.map (some bn)) (.string s) false).run Tryd.prog w = .ok v w := by
  obtain ⟨mm, hm, hr⟩ := h.ex
  have q1 := SMap.look_ok (e := 37) hm strT Tryd.underlying64 (z := .agg zeroNd) (by kernel_rfl) hs
  have q2 := SMap.look (e := 37) hm strT Tryd.underlying64 (z := .agg zeroNd) (by kernel_rfl) hs
  rcases hr.get s.data.toList with ⟨h1, h2⟩ | ⟨y, v, h1, h2, h3⟩
  · rw [h2] at q1 q2
    rw [h1]
    exact ⟨.agg zeroNd, zeroN_nds S w, q1, q2⟩
  · rw [h2] at q1 q2
    rw [h1]
    exact ⟨v, h3, q1, q2⟩

theorem MOk.fit {M : List (Key × Nd)} (h : MOk M) (k : Key) : Fit ((mget M k).getD zeroN) := by
  cases hg : mget M k with
  | none => exact zeroN_fit
  | some n => exact (right_fit (h.at hg).2).1

def GetOut (M : List (Key × Nd)) (s : ByteArray) (w : World) (e : Ending) (w' : World) : Prop :=
  ∃ v, e = .returned (.tuple #[v, .bool (mget M s.data.toList).isSome]) ∧ NdS (fun b => w.heap.size ≤ b ∧ b < w'.heap.size) w' v ((mget M s.data.toList).getD zeroN) ∧ Ext w w'

theorem tget_any (S : Nat → Prop) (w : World) (bt : Nat) (M : List (Key × Nd)) (N : Nat) (hT : TreeAt S w bt M N) (s : ByteArray) (hs : s.size ≤ maxLen) : Calls Tryd.prog 19 #[.pointer (some ⟨bt, 0, none⟩), .string s] w (GetOut M s w) := by
  obtain ⟨W1, hW1⟩ : ∃ W1, W1 = w.alloc (.cells zeroNd 37) := ⟨_, rfl⟩
  have hE1 : Ext w W1 := by rw [hW1]; exact Ext.alloc _ _
  have hz1 : W1.heap.size = w.heap.size + 1 := by rw [hW1]; simp
  have hr1 : W1.heap[w.heap.size]? = some (.cells zeroNd 37 (0, 0)) := by rw [hW1]; exact heap_alloc_new w _
  have hT1 := hT.ext hE1
  have hok := hT.ok
  have hbnd := hT.bound
  obtain ⟨bn, bk, K, hd, hNd, hKd⟩ := hT1
  have hx := TreeAt.box hd
  obtain ⟨v, hv, hq, hq2⟩ := hNd.look' s hs
  clear hq2
  have hfit := hok.fit s.data.toList
  generalize hn : (mget M s.data.toList).getD zeroN = n at *
  obtain ⟨da, dc, aa, ac, rfl, hD, hA⟩ := hv
  obtain ⟨W2, hW2⟩ : ∃ W2, W2 = W1.alloc (.cells (ndC n (.slice da n.data.length dc) (.slice aa n.acl.length ac)) 37) := ⟨_, rfl⟩
  have hE2 : Ext W1 W2 := by rw [hW2]; exact Ext.alloc _ _
  have hz2 : W2.heap.size = W1.heap.size + 1 := by rw [hW2]; simp
  have hr2 := (hE2.block w.heap.size (by omega)).trans hr1
  have hb2 : W2.heap[W1.heap.size]? = some (.cells (ndC n (.slice da n.data.length dc) (.slice aa n.acl.length ac)) 37 (0, 0)) := by rw [hW2]; exact heap_alloc_new W1 _
  have hD2 : Cells W2.heap.size W2 da (n.data.map u8v) := (hD.cells hd.bound).ext hE2
  have hA2 : Cells W2.heap.size W2 aa (acCs n.acl) := (hA.cells hd.bound).ext hE2
  have C := sclone_nd n da aa dc ac W2 hfit hD2 hA2
  have HSET := Lib.hid ((setRow_alloc W1 zeroNd (ndC n (.slice da n.data.length dc) (.slice aa n.acl.length ac)) 37).trans hW2.symm)
  have HNew := Lib.hid (heap_alloc_new W1 (.cells zeroNd 37))
  rw [hz1] at hb2
  have HB2 := Lib.hid hb2
  have HR2 := Lib.hid hr2
  have HW1 := Lib.hid hW1
  have HN := Lib.hid hn
  unfold ndC at HSET HB2 C hq
  unfold zeroNd at HSET HNew HW1 HR2
  unfold Box treeC at hx
  have C := Lib.hid C
  have hx' := hx
  have hq' := hq
  have HS' := HSET.out
  rw [HW1.out] at hx' hq' HS'
  rw [World.size_alloc] at HS'
  have HS2 := Lib.hid HS'
  have HNew' := HNew.out
  rw [HW1.out, World.size_alloc] at HNew'
  have HN2 := Lib.hid HNew'
  clear HSET HNew HNew' HS' hx hq
  clear hW1 hr1 hd hNd hKd hD hA hW2 hb2 hr2 hD2 hA2 hT hn hok hbnd hfit
  go_enter Tryd.func19, Tryd.ntmps19
  go_wp2_with (first | (refine wpList_store_row rfl 37 (.tmp 6) (.tmp 18) rfl (w.heap.size + 1) _ rfl rfl 37 _ HN2.out sizeNd rfl (cells_node n da aa _ _ dc ac) ?_; rw [HS2.out]) | (refine wpList_load_row rfl 37 (.tmp 6) rfl (w.heap.size + 1) rfl 37 _ (0, 0) _ HB2.out Tryd.underlying37 rfl sizeNd ?_))
  refine C.out.mono ?_
  rintro e w3 ⟨v3, rfl, hN3, hb3⟩
  have hE3 : Ext W2 w3 := hb3
  obtain ⟨va, vc, vb, vd, rfl, h1, h2⟩ := hN3
  have HR3 := Lib.hid ((hE3.block w.heap.size (by omega)).trans HR2.out)
  have hz3 := hE3.size
  have hEw : Ext w w3 := (hE1.trans hE2).trans hE3
  clear C HB2 HN2 HS2 hx' hq' hb3
  go_wp2_with (refine wpList_store_row rfl 37 (.tmp 4) (.tmp 21) rfl w.heap.size _ rfl rfl 37 _ HR3.out sizeNd rfl (cells_node n va vb _ _ vc vd) ?_)
  obtain ⟨cs, hcs⟩ : ∃ cs, cs = ndC n (.slice va n.data.length vc) (.slice vb n.acl.length vd) := ⟨_, rfl⟩
  have hR4 := setRow_heap w3 w.heap.size _ cs 37 (0, 0) HR3.out
  have hs4 : (w3.setRow w.heap.size cs).heap.size = w3.heap.size := by simp [World.setRow]
  have hb4 : Ext w (w3.setRow w.heap.size cs) := hEw.trans' ⟨rfl, rfl, rfl, by rw [hs4]; exact Nat.le_refl _, fun k hk => setRow_other _ _ _ _ (by omega)⟩
  have hk : ∀ (b o : Nat) u, (W2.heap.size ≤ b ∧ b < w3.heap.size) → w3.cell? ⟨b, o, none⟩ = some u → (w3.setRow w.heap.size cs).cell? ⟨b, o, none⟩ = some u := fun b o u hb hu =>
    (World.cell?_of_block (setRow_other _ _ _ _ (show b ≠ w.heap.size by have := hb.1; omega))).trans hu
  have c1 := h1.imp (S' := fun b => w.heap.size ≤ b ∧ b < (w3.setRow w.heap.size cs).heap.size) (fun b hb => ⟨by omega, by omega⟩) hk
  have c2 := h2.imp (S' := fun b => w.heap.size ≤ b ∧ b < (w3.setRow w.heap.size cs).heap.size) (fun b hb => ⟨by omega, by omega⟩) hk
  have hsz17 : (Tryd.prog.info? 37).map (·.size) = some cs.size := by rw [hcs]; exact sizeNd
  have hfin : GetOut M s w (.returned (.tuple #[.agg cs, .bool (mget M s.data.toList).isSome])) (w3.setRow w.heap.size cs) :=
    ⟨_, rfl, by rw [HN.out]; exact ⟨va, vc, vb, vd, by rw [hcs], c1, c2⟩, hb4⟩
  rw [hcs] at hfin hR4 hsz17
  refine bodyPost_ret (v := .tuple #[.agg (ndC n (.slice va n.data.length vc) (.slice vb n.acl.length vd)), .bool (mget M s.data.toList).isSome]) ?_ rfl hfin
  exact results_cell_row2 (p := 4) (q := 5) (ty := 37) rfl _ _ w.heap.size 37 _ (0, 0) _ _ rfl rfl hR4 Tryd.underlying37 rfl hsz17
end Go.Proofs.YtamolbegmkngdaaDoor
namespace Go.Proofs.YtamolbegmkngdaaDoor
open Go.ChangeShapes Go.WideShapes Go.ChangeAt Go.RowKit Go.Deep
set_option maxHeartbeats 2000000
set_option maxRecDepth 100000

theorem Tryd.bytes_node : Tryd.prog.bytesOf 37 = 168 := by kernel_rfl

instance : Inhabited Nd := ⟨zeroN⟩

section
variable {H : Type} {enc : TypeId × Value → H} {w : World} {fuel : Nat}

/-- A slice of nodes, opened. -/
theorem open_nodes_cap {v : Value} {x : DataW H × List MemPlace} (h : DataW.trod enc Tryd.prog w 0 (fun _ => true) true fuel 22 [v] = some x) (hz : Light 22 x.1) :
    ∃ (l : List Nd) (a : Option Addr) (cap : Nat), v = .slice a l.length cap ∧ l.length * 168 ≤ 140737488355328 ∧ (∀ n ∈ l, Fit n) ∧ NdsAt w.heap.size w a l ∧ l.length ≤ cap := by
  rcases open_slice Tryd.underlying22 h with ⟨hcs, rfl⟩ | ⟨a, len, cap, m, n, D, Pl, hcs, _, hl, hm, hmm, rfl, hx⟩
  · simp only [List.cons.injEq, and_true] at hcs
    subst hcs
    exact ⟨[], none, 0, rfl, by simp, by simp, fun i n h => (by simp at h), by simp⟩
  · simp only [List.cons.injEq, and_true] at hcs
    subst hcs
    simp only [if_true] at hmm
    subst hmm
    have hw := light_len Tryd.underlying22 hz
    rw [Tryd.bytes_node] at hw
    simp only [List.length_map, List.length_range] at hw
    obtain ⟨X, hX⟩ := choose_lt (n := len) (p := fun i (n : Nd) => ∃ v, NdV w.heap.size w v n ∧ (∀ r u, v.cells[r]? = some u → w.cell? ((a.add (i * 17)).add r) = some u) ∧ Fit n ∧ v.cells[0]? ≠ none) fun i hi => by
      obtain ⟨cs', h1, h2⟩ := hx i (by omega)
      obtain ⟨n, da, aa, dc, ac, rfl, hf, hD, hA⟩ := open_node h2 (light_elem Tryd.underlying22 hz (List.mem_map.2 ⟨i, List.mem_range.2 hi, rfl⟩))
      rw [Tryd.cells_node] at h1
      obtain ⟨_, _, h3⟩ := World.cells?_some h1
      refine ⟨n, _, ⟨da, dc, aa, ac, rfl, hD, hA⟩, fun r u hr => ?_, hf, fun h => by cases h⟩
      have hr' : (ndC n (.slice da n.data.length dc) (.slice aa n.acl.length ac))[r]? = some u := hr
      rw [h3 r (by have := (Array.getElem?_eq_some_iff.1 hr').1; simpa [ndC] using this)]
      simpa using hr'
    refine ⟨(List.range len).map X, some a, m, by simp, by simp; omega, fun x hx' => ?_, fun j n hj => ?_, by simp; omega⟩
    · obtain ⟨i, hi, rfl⟩ := List.mem_map.1 hx'
      obtain ⟨_, _, _, h, _⟩ := hX i (List.mem_range.1 hi)
      exact h
    · simp only [List.getElem?_map] at hj
      by_cases hi : j < len
      · rw [List.getElem?_range hi] at hj
        simp only [Option.map_some, Option.some.injEq] at hj
        subst hj
        obtain ⟨v, hv, hc, _, _⟩ := hX j hi
        obtain ⟨_, _, hc00, _, h0⟩ := hX 0 (by omega)
        obtain ⟨u0, hu0⟩ := Option.ne_none_iff_exists'.1 h0
        have hc0 := hc00 0 _ hu0
        have hsp := World.cell?_spot hc0
        have hlt := World.block_lt_of_cell? _ _ hc0
        obtain ⟨b, off, sp⟩ := a
        obtain rfl : sp = none := by simpa [Addr.add] using hsp
        refine ⟨b, off, v, rfl, by simpa [Addr.add] using hlt, hv, fun r u hr => ?_⟩
        have := hc r u hr
        rw [add_plain, add_plain] at this
        rw [← this]
      · rw [List.getElem?_eq_none (by simp; omega)] at hj
        simp at hj
theorem open_nodes {v : Value} {x : DataW H × List MemPlace} (h : DataW.trod enc Tryd.prog w 0 (fun _ => true) true fuel 22 [v] = some x) (hz : Light 22 x.1) :
    ∃ (l : List Nd) (a : Option Addr) (cap : Nat), v = .slice a l.length cap ∧ l.length * 168 ≤ 140737488355328 ∧ (∀ n ∈ l, Fit n) ∧ NdsAt w.heap.size w a l := by
  obtain ⟨l, a, c, h1, h2, h3, h4, _⟩ := open_nodes_cap h hz
  exact ⟨l, a, c, h1, h2, h3, h4⟩
end
end Go.Proofs.YtamolbegmkngdaaDoor
namespace Go.Proofs.YtamolbegmkngdaaDoor
open Go.RowKit
set_option maxHeartbeats 400000

theorem fields_of {t : TypeId} {fs : Array Field} (h : Tryd.prog.underlying t = some (.struct fs)) : Tryd.prog.fieldsOf t = fs := by
  unfold Program.fieldsOf; rw [h]
theorem eq_agg (w : World) (d : Nat) (t : TypeId) (fs : Array Field) (xs ys : Array Value) (h : Tryd.prog.underlying t = some (.struct fs)) (hp : Tryd.prog.stoodInHeld t = false) :
    (Op.equalIn (d + 1) t (.agg xs) (.agg ys)).run Tryd.prog w = (Op.eqFields d xs ys fs.toList).run Tryd.prog w := by
  rw [run_equalIn_agg w d t xs ys (by rw [fields_of h]; exact h) hp, fields_of h]

theorem eq_id (w : World) (d : Nat) (a b a' b' : ByteArray) : (Op.equalIn (d + 2) 95 (.agg #[.string a, .string b]) (.agg #[.string a', .string b'])).run Tryd.prog w = .ok (a.toList == a'.toList && b.toList == b'.toList) w := by
  rw [eq_agg w (d + 1) _ _ _ _ Tryd.underlying95 (by kernel_rfl)]
  simp [Op.eqFields, part, go_sem]
  repeat' split
  all_goals simp_all

def eqAc (x y : Ac) : Bool := x.perms == y.perms && (x.scheme.toList == y.scheme.toList && x.id.toList == y.id.toList)
def acV (x : Ac) : Value := .agg #[.int .i32 x.perms, .string x.scheme, .string x.id]
theorem eq_ac (w : World) (d : Nat) (x y : Ac) : (Op.equalIn (d + 3) 97 (acV x) (acV y)).run Tryd.prog w = .ok (eqAc x y) w := by
  unfold acV
  rw [eq_agg w (d + 2) _ _ _ _ Tryd.underlying97 (by kernel_rfl)]
  simp [Op.eqFields, part, go_sem]
  unfold eqAc
  repeat' split
  all_goals simp_all

theorem guard_ac : Tryd.prog.eqGuardType Tryd.prog.depth 97 = false := by kernel_rfl
theorem guard_q : Tryd.prog.eqGuardType Tryd.prog.depth 35 = false := by kernel_rfl
theorem neq_ac (w : World) (x y : Ac) : (binOp .neq 97 (.agg #[.int .i32 x.perms, .string x.scheme, .string x.id]) (.agg #[.int .i32 y.perms, .string y.scheme, .string y.id])).run Tryd.prog w = .ok (.bool (!eqAc x y)) w := by
  rw [run_neq_struct]
  have := eq_ac w 9997 x y
  unfold acV at this
  rw [this]
  rfl
theorem eql_ac (w : World) (x y : Ac) : (binOp .eql 97 (.agg #[.int .i32 x.perms, .string x.scheme, .string x.id]) (.agg #[.int .i32 y.perms, .string y.scheme, .string y.id])).run Tryd.prog w = .ok (.bool (eqAc x y)) w := by
  rw [run_eql_struct]
  have := eq_ac w 9997 x y
  unfold acV at this
  rw [this]
  rfl

def eqQ (h : Bool) (a b : Int) (h' : Bool) (a' b' : Int) : Bool := h == h' && (a == a' && b == b')
theorem eq_q (w : World) (d : Nat) (h : Bool) (a b : Int) (h' : Bool) (a' b' : Int) : (Op.equalIn (d + 2) 35 (.agg #[.bool h, .int .i64 a, .int .i64 b]) (.agg #[.bool h', .int .i64 a', .int .i64 b'])).run Tryd.prog w = .ok (eqQ h a b h' a' b') w := by
  rw [eq_agg w (d + 1) _ _ _ _ Tryd.underlying35 (by kernel_rfl)]
  simp [Op.eqFields, part, go_sem]
  unfold eqQ
  repeat' split
  all_goals simp_all
theorem neq_q (w : World) (h : Bool) (a b : Int) (h' : Bool) (a' b' : Int) : (binOp .neq 35 (.agg #[.bool h, .int .i64 a, .int .i64 b]) (.agg #[.bool h', .int .i64 a', .int .i64 b'])).run Tryd.prog w = .ok (.bool (!eqQ h a b h' a' b')) w := by
  rw [run_neq_struct, eq_q w 9998]; rfl
theorem eql_q (w : World) (h : Bool) (a b : Int) (h' : Bool) (a' b' : Int) : (binOp .eql 35 (.agg #[.bool h, .int .i64 a, .int .i64 b]) (.agg #[.bool h', .int .i64 a', .int .i64 b'])).run Tryd.prog w = .ok (.bool (eqQ h a b h' a' b')) w := by
  rw [run_eql_struct, eq_q w 9998]; rfl
end Go.Proofs.YtamolbegmkngdaaDoor
namespace Go.Proofs.YtamolbegmkngdaaDoor
open Go.RowKit
set_option maxHeartbeats 2000000
set_option maxRecDepth 100000

/-- Are two lists alike. -/
def eqAcs : List Ac → List Ac → Bool
  | [], [] => true
  | x :: xs, y :: ys => eqAc x y && eqAcs xs ys
  | _, _ => false
theorem eqAcs_len : ∀ xs ys, xs.length ≠ ys.length → eqAcs xs ys = false
  | [], [], h => absurd rfl h
  | [], _ :: _, _ => rfl
  | _ :: _, [], _ => rfl
  | x :: xs, y :: ys, h => by simp only [eqAcs]; rw [eqAcs_len xs ys (by simpa using h)]; simp
theorem eqAcs_drop (xs ys : List Ac) (k : Nat) (h : k < xs.length) (h' : k < ys.length) : eqAcs (xs.drop k) (ys.drop k) = (eqAc xs[k] ys[k] && eqAcs (xs.drop (k + 1)) (ys.drop (k + 1))) := by
  rw [List.drop_eq_getElem_cons h, List.drop_eq_getElem_cons h']; rfl

theorem racls_any (a b : Option Addr) (c d : Nat) (xs ys : List Ac) (w : World) (hx : Cells w.heap.size w a (acCs xs)) (hy : Cells w.heap.size w b (acCs ys)) (hm : xs.length ≤ 9223372036854775800) (hm' : ys.length ≤ 9223372036854775800) :
    Calls Tryd.prog 61 #[.slice a xs.length c, .slice b ys.length d] w fun e w' => e = .returned (.bool (eqAcs xs ys)) ∧ Below w.heap.size w w' := by
  by_cases hl : xs.length ≠ ys.length
  · have H1 := Lib.hid (eqAcs_len xs ys hl)
    have hlb : ((xs.length : Int) != ys.length) = true := by simp; omega
    clear hl hx hy
    go_enter Tryd.func61, Tryd.ntmps61
    go_wp2
    go_ret
    exact ⟨by rw [H1.out]; rfl, Below.refl _ _⟩
  have hl : xs.length = ys.length := by omega
  have HL := Lib.hid hl
  have hg := guard_ac
  have hnq := neq_ac
  have hlb : ((xs.length : Int) != ys.length) = false := by simp [hl]
  clear hl
  go_enter Tryd.func61, Tryd.ntmps61
  go_wp2
  go_loopw [5] (fun i wr => ∃ (k n : Nat), k ≤ xs.length ∧ i = .int .i64 k ∧ wr = w.drewN n ∧ Hid (eqAcs xs ys = eqAcs (xs.drop k) (ys.drop k))) (fun i _ => xs.length - (intOf i).toNat)
  case atStart => exact ⟨0, 0, Nat.zero_le _, rfl, rfl, rfl⟩
  case round =>
    obtain ⟨k, n, hk, rfl, rfl, HQ⟩ := hrel
    by_cases hlt : k < xs.length
    · have hlt' : k < ys.length := by have := HL.out; omega
      obtain ⟨b1, o1, rfl, hb1, c0, c1, c2⟩ := acCells hx k hlt
      obtain ⟨b2, o2, rfl, hb2, d0, d1, d2⟩ := acCells hy k hlt'
      have hk1 : (k : Int) < xs.length := by omega
      have hk2 : (k : Int) < ys.length := by omega
      have hk0 : (0 : Int) ≤ k := by omega
      have HD := Lib.hid (eqAcs_drop xs ys k hlt hlt')
      cases he : eqAc xs[k] ys[k]
      · have H1 : Hid (eqAcs xs ys = false) := by unfold Hid; rw [HQ.out, HD.out, he]; rfl
        clear hx hy
        go_wp2
        go_quiet (fail)
        go_wp2
        go_ret
        exact ⟨by rw [H1.out]; rfl, below_drewN (below_drewN (Below.refl _ _) _) _⟩
      · have H1 : Hid (eqAcs xs ys = eqAcs (xs.drop (k + 1)) (ys.drop (k + 1))) := by unfold Hid; rw [HQ.out, HD.out, he]; rfl
        clear hx hy
        go_wp2
        go_quiet (fail)
        go_wp2
        go_roundw
        case rel => exact ⟨k + 1, _, by omega, by go_num, rfl, H1⟩
        case measure => simp [intOf]; omega
    · obtain rfl : k = xs.length := by omega
      have H1 : Hid (eqAcs xs ys = true) := by
        unfold Hid; rw [HQ.out, List.drop_length, HL.out, List.drop_length]; rfl
      clear hx hy
      go_wp2
      go_ret
      exact ⟨by rw [H1.out]; rfl, below_drewN (Below.refl _ _) _⟩

theorem eqAc_self (x : Ac) : eqAc x x = true := by simp [eqAc]
theorem eqAcs_self : ∀ l : List Ac, eqAcs l l = true
  | [] => rfl
  | x :: l => by simp only [eqAcs]; rw [eqAc_self, eqAcs_self l]; rfl

/-- A node and its like are alike. -/
theorem rsame_self (n : Nd) (da aa db ab : Option Addr) (dc ac dd ad : Nat) (w : World) (hf : Fit n) (hD : Cells w.heap.size w da (n.data.map u8v)) (hA : Cells w.heap.size w aa (acCs n.acl)) (hD' : Cells w.heap.size w db (n.data.map u8v)) (hA' : Cells w.heap.size w ab (acCs n.acl)) :
    Calls Tryd.prog 37 #[.agg (ndC n (.slice da n.data.length dc) (.slice aa n.acl.length ac)), .agg (ndC n (.slice db n.data.length dd) (.slice ab n.acl.length ad))] w fun e w' => e = .returned (.bool true) ∧ Below w.heap.size w w' := by
  have hfa := hf.acl
  obtain ⟨W2, hW2⟩ : ∃ W2, W2 = (w.alloc (.cells (ndC n (.slice da n.data.length dc) (.slice aa n.acl.length ac)) 37)).alloc (.cells (ndC n (.slice db n.data.length dd) (.slice ab n.acl.length ad)) 37) := ⟨_, rfl⟩
  have hs2 : W2.heap.size = w.heap.size + 1 + 1 := by rw [hW2]; simp
  have hb2 : Below w.heap.size w W2 := by rw [hW2]; exact ((Below.refl _ _).alloc (Nat.le_refl _) _).alloc (by simp) _
  have hx : Box W2 w.heap.size (ndC n (.slice da n.data.length dc) (.slice aa n.acl.length ac)) := fun j => by rw [hW2]; exact cell_of_row _ _ _ _ _ _ (heap_alloc2_old w _ _)
  have hy : Box W2 (w.heap.size + 1) (ndC n (.slice db n.data.length dd) (.slice ab n.acl.length ad)) := fun j => by rw [hW2]; exact cell_of_row _ _ _ _ _ _ (heap_alloc2_new w _ _)
  have hv1 := conv_string dc (hD.below hb2)
  have hv2 := conv_string dd (hD'.below hb2)
  have CA := racls_any aa ab ac ad n.acl n.acl W2 ((hA.below hb2).mono (by omega)) ((hA'.below hb2).mono (by omega)) (by omega) (by omega)
  rw [eqAcs_self] at CA
  have hgq := guard_q
  have hnq := neq_q
  have hqq : ∀ h a b, eqQ h a b h a b = true := fun h a b => by simp [eqQ]
  rw [hW2] at hv1 hv2 CA
  have CA := Lib.hid CA
  have HW2 := Lib.hid hW2
  unfold ndC at hx hy hv1 hv2 CA HW2 ⊢
  clear hW2 hD hA hD' hA'
  go_enter Tryd.func37, Tryd.ntmps37
  go_wp2_with fail
  refine CA.out.mono ?_
  rintro e w3 ⟨rfl, hb3⟩
  rw [← HW2.out] at hb3
  have hx3 := hx.below hb3 (by omega)
  have hy3 := hy.below hb3 (by omega)
  have hbb := hb2.trans (hb3.mono (by omega))
  unfold Box at hx3 hy3
  clear CA hx hy hv1 hv2 hb3 hb2 HW2
  go_wp2
  go_ret
  exact ⟨rfl, hbb⟩
end Go.Proofs.YtamolbegmkngdaaDoor
namespace Go.Proofs.YtamolbegmkngdaaDoor
open Go.RowKit
set_option maxHeartbeats 2000000
set_option maxRecDepth 100000

theorem bequal_self (a b : Option Addr) (c d : Nat) (xs : List UInt8) (w : World) (hx : Cells w.heap.size w a (xs.map u8v)) (hy : Cells w.heap.size w b (xs.map u8v)) :
    Calls Tryd.prog 59 #[.slice a xs.length c, .slice b xs.length d] w fun e w' => e = .returned (.bool true) ∧ w = w' := by
  have hv1 := conv_string c hx
  have hv2 := conv_string d hy
  clear hx hy
  go_enter Tryd.func59, Tryd.ntmps59
  go_wp2
  go_ret
  exact ⟨rfl, rfl⟩

theorem aequal_self (a b : Option Addr) (c d : Nat) (xs : List Ac) (w : World) (hx : Cells w.heap.size w a (acCs xs)) (hy : Cells w.heap.size w b (acCs xs)) (hm : xs.length ≤ 9223372036854775800) :
    Calls Tryd.prog 60 #[.slice a xs.length c, .slice b xs.length d] w fun e w' => e = .returned (.bool true) ∧ Below w.heap.size w w' := by
  have hg := guard_ac
  have hnq := neq_ac
  go_enter Tryd.func60, Tryd.ntmps60
  go_wp2
  go_loopw [13] (fun i wr => ∃ (k n : Nat), k ≤ xs.length ∧ i = .int .i64 k ∧ wr = w.drewN n) (fun i _ => xs.length - (intOf i).toNat)
  case atStart => exact ⟨0, 0, Nat.zero_le _, rfl, rfl⟩
  case round =>
    obtain ⟨k, n, hk, rfl, rfl⟩ := hrel
    by_cases hlt : k < xs.length
    · obtain ⟨b1, o1, rfl, hb1, c0, c1, c2⟩ := acCells hx k hlt
      obtain ⟨b2, o2, rfl, hb2, d0, d1, d2⟩ := acCells hy k hlt
      have hk1 : (k : Int) < xs.length := by omega
      have hk0 : (0 : Int) ≤ k := by omega
      have he := eqAc_self xs[k]
      clear hx hy
      go_wp2
      go_quiet (fail)
      go_wp2
      go_roundw
      case rel => exact ⟨k + 1, _, by omega, by go_num, rfl⟩
      case measure => simp [intOf]; omega
    · obtain rfl : k = xs.length := by omega
      clear hx hy
      go_wp2
      go_ret
      exact ⟨rfl, below_drewN (Below.refl _ _) _⟩

/-- A node and its like are the same. -/
theorem ssame_self (n : Nd) (da aa db ab : Option Addr) (dc ac dd ad : Nat) (w : World) (hf : Fit n) (hD : Cells w.heap.size w da (n.data.map u8v)) (hA : Cells w.heap.size w aa (acCs n.acl)) (hD' : Cells w.heap.size w db (n.data.map u8v)) (hA' : Cells w.heap.size w ab (acCs n.acl)) :
    Calls Tryd.prog 36 #[.agg (ndC n (.slice da n.data.length dc) (.slice aa n.acl.length ac)), .agg (ndC n (.slice db n.data.length dd) (.slice ab n.acl.length ad))] w fun e w' => e = .returned (.bool true) ∧ Below w.heap.size w w' := by
  have hfa := hf.acl
  obtain ⟨W2, hW2⟩ : ∃ W2, W2 = (w.alloc (.cells (ndC n (.slice da n.data.length dc) (.slice aa n.acl.length ac)) 37)).alloc (.cells (ndC n (.slice db n.data.length dd) (.slice ab n.acl.length ad)) 37) := ⟨_, rfl⟩
  have hs2 : W2.heap.size = w.heap.size + 1 + 1 := by rw [hW2]; simp
  have hb2 : Below w.heap.size w W2 := by rw [hW2]; exact ((Below.refl _ _).alloc (Nat.le_refl _) _).alloc (by simp) _
  have hx : Box W2 w.heap.size (ndC n (.slice da n.data.length dc) (.slice aa n.acl.length ac)) := fun j => by rw [hW2]; exact cell_of_row _ _ _ _ _ _ (heap_alloc2_old w _ _)
  have hy : Box W2 (w.heap.size + 1) (ndC n (.slice db n.data.length dd) (.slice ab n.acl.length ad)) := fun j => by rw [hW2]; exact cell_of_row _ _ _ _ _ _ (heap_alloc2_new w _ _)
  have CB := bequal_self da db dc dd n.data W2 ((hD.below hb2).mono (by omega)) ((hD'.below hb2).mono (by omega))
  have CA := aequal_self aa ab ac ad n.acl W2 ((hA.below hb2).mono (by omega)) ((hA'.below hb2).mono (by omega)) (by omega)
  have hgq := guard_q
  have hnq := eql_q
  have hqq : ∀ h a b, eqQ h a b h a b = true := fun h a b => by simp [eqQ]
  rw [hW2] at CA CB
  have CA := Lib.hid CA
  have CB := Lib.hid CB
  have HW2 := Lib.hid hW2
  unfold ndC at hx hy CA CB HW2 ⊢
  clear hW2 hD hA hD' hA'
  unfold Box at hx hy
  have hx0 := hx
  have hy0 := hy
  rw [HW2.out] at hx hy
  go_enter Tryd.func36, Tryd.ntmps36
  go_wp2_with fail
  refine CB.out.mono ?_
  rintro e w3 ⟨rfl, rfl⟩
  clear CB
  go_wp2_with fail
  refine CA.out.mono ?_
  rintro e w3 ⟨rfl, hb3⟩
  rw [← HW2.out] at hb3
  have hx3 := Box.below (fun j => hx0 j) hb3 (by omega)
  have hy3 := Box.below (fun j => hy0 j) hb3 (by omega)
  have hbb := hb2.trans (hb3.mono (by omega))
  unfold Box at hx3 hy3
  clear CA hx hy hx0 hy0 hb3 hb2 HW2
  go_wp2
  go_ret
  exact ⟨rfl, hbb⟩
end Go.Proofs.YtamolbegmkngdaaDoor
namespace Go.Proofs.YtamolbegmkngdaaDoor
open Go.RowKit
set_option maxHeartbeats 1000000

section
variable {P : Program} {ops : Array Oper} {rest : List Oper} {o : Oper} {a : Act} {Q : Exit → Act → World → Prop}
theorem wpList_next_left (w : World) (hg : o.guard = none) (it : Operand) (hop : o.op = Op.next it false) (kt : TypeId) (hk : P.underlying kt = some .string) (b r n : Nat) (m : List (Key × Value)) (left : Lit → Bool) (cnt : Nat)
    (hit : a.eval it = .pointer (some ⟨r, 0, none⟩)) (h : w.ranges P kt Rv b r n (kvD m) left cnt)
    (hDone : (∀ kl, left kl = false) → wpList P ops Q rest (a.put o.dst (.tuple #[.bool false])) w)
    (hMore : ∀ (s : ByteArray) (v : Value) (w' : World) (cnt' : Nat), s.size ≤ maxLen → left (.string s.data.toList) = true → mget m s.data.toList = some v → w'.ranges P kt Rv b r n (kvD m) (fun z => left z && !z.sameKey (.string s.data.toList)) cnt' → cnt' < cnt →
      w.grownBy w' (some r) → w'.heap.size = w.heap.size → (Instr.entry (.pointer (some ⟨r, 0, none⟩))).run P w' = .ok (.tuple #[.string s, v]) w' → wpList P ops Q rest (a.put o.dst (.tuple #[.bool true, .string s, v])) w') :
    wpList P ops Q (o :: rest) a w :=
  wpList_next_ranges w hg it hop kt (Maps.string_keyed hk) Rv Value.string (id : Value → Value) (fun key kl hkey => by
      simp only [keyOf, hk, mapKey] at hkey
      cases key <;> simp at hkey
      exact ⟨_, rfl⟩) (fun v y _ => ⟨v, rfl⟩) b r n (kvD m) left cnt hit h (fun _ => hDone) fun s v kl y w' cnt' hkey hlk hv hat hrg hlt hgr hsz hen => by
    have hkl : kl = .string s.data.toList ∧ s.size ≤ maxLen := by
      simp only [keyOf, hk, mapKey] at hkey
      split at hkey
      · rename_i hs; exact ⟨(Option.some.inj hkey).symm, hs⟩
      · cases hkey
    obtain ⟨rfl, hs⟩ := hkl
    simp only [Rv, id, Option.some.injEq] at hv
    subst hv
    refine hMore s v w' cnt' hs hlk ?_ hrg hlt hgr hsz hen
    have h1 := hat (.held (.bool true))
    have h2 := hat (.held (.bool false))
    rw [kvD_at] at h1 h2
    simp only [DataW.held.injEq] at h1 h2
    cases hq : mget m s.data.toList with
    | some u => rw [hq] at h1; exact congrArg some h1
    | none => rw [hq] at h1 h2; simp at h1 h2; rw [← h1] at h2; cases h2
end
end Go.Proofs.YtamolbegmkngdaaDoor
namespace Go.Proofs.YtamolbegmkngdaaDoor
open Go.RowKit
variable {F : Fence} {n : Nat} {P : Program}

/-- A record of a loop over a function, or its block for deferred calls. -/
def recB : Obj → Bool
  | .loop _ => true
  | .deferred _ => true
  | _ => false

/-- All is as it was but such records from block B on; the rest is new. -/
structure Turn (B : Nat) (W W' : World) : Prop where
  os : W'.os = W.os
  tape : W'.tape = W.tape
  output : W'.output = W.output
  size : W.heap.size ≤ W'.heap.size
  same : ∀ (k : Nat) (o : Obj), W.heap[k]? = some o → (k < B ∨ recB o = false) → W'.heap[k]? = some o
theorem Turn.refl (B : Nat) (W : World) : Turn B W W := ⟨rfl, rfl, rfl, Nat.le_refl _, fun _ _ h _ => h⟩
theorem Turn.trans {B : Nat} {X Y Z : World} (h : Turn B X Y) (k : Turn B Y Z) : Turn B X Z :=
  ⟨k.os.trans h.os, k.tape.trans h.tape, k.output.trans h.output, Nat.le_trans h.size k.size, fun i o hi ho => k.same i o (h.same i o hi ho) ho⟩
theorem Turn.of_ext {B : Nat} {W W' : World} (h : Ext W W') : Turn B W W' :=
  ⟨h.os, h.tape, h.output, h.size, fun k o hk _ => (h.block k (Array.getElem?_eq_some_iff.1 hk).1).trans hk⟩
theorem Turn.putObj {B r : Nat} {W : World} {o : Obj} (o' : Obj) (hB : B ≤ r) (h : W.heap[r]? = some o) (hr : recB o = true) : Turn B W (W.putObj r o') :=
  ⟨rfl, rfl, rfl, by simp, fun k o'' hk ho => by
    by_cases e : k = r
    · subst e
      rw [h] at hk
      cases hk
      rcases ho with ho | ho
      · omega
      · rw [hr] at ho; cases ho
    · exact (World.putObj_heap_other e).trans hk⟩
theorem Turn.below {B B' : Nat} {W W' : World} (h : Turn B W W') (hB : B' ≤ B) (hs : B' ≤ W.heap.size) : Below B' W W' :=
  ⟨h.os, h.tape, h.output, h.size, fun k hk => by
    have hk' : k < W.heap.size := by omega
    rw [h.same k _ (Array.getElem?_eq_getElem hk') (.inl (by omega)), Array.getElem?_eq_getElem hk']⟩

/-- The records from block B on are as they were. -/
structure KeepsRec (B : Nat) (W W' : World) : Prop where
  size : W.heap.size ≤ W'.heap.size
  same : ∀ (k : Nat) (o : Obj), B ≤ k → W.heap[k]? = some o → recB o = true → W'.heap[k]? = some o
theorem KeepsRec.refl (B : Nat) (W : World) : KeepsRec B W W := ⟨Nat.le_refl _, fun _ _ _ h _ => h⟩
theorem KeepsRec.trans {B : Nat} {X Y Z : World} (h : KeepsRec B X Y) (k : KeepsRec B Y Z) : KeepsRec B X Z :=
  ⟨Nat.le_trans h.size k.size, fun i o hB hi ho => k.same i o hB (h.same i o hB hi ho) ho⟩
theorem KeepsRec.of_ext {B : Nat} {W W' : World} (h : Ext W W') : KeepsRec B W W' := ⟨h.size, fun k _ _ hk _ => (h.block k (Array.getElem?_eq_some_iff.1 hk).1).trans hk⟩

/-- How the body of a round may be left. -/
def tellPost {α : Type} (B : Nat) (Keep : World → World → Prop) (I : List α → World → Prop) (Ix : Code → List α → World → Prop) (xs : List α) (W : World) : Exit → Act → World → Prop
  | .normal, _, W' => KeepsRec B W W' ∧ Keep W W' ∧ I xs W'
  | .ret, _, W' => KeepsRec B W W' ∧ Ix .ret xs W'
  | .exit id, _, W' => KeepsRec B W W' ∧ Ix (.exit id) xs W'
  | .goto t, _, W' => KeepsRec B W W' ∧ Ix (.goto t) xs W'
  | .panic _, _, _ => False
  | .outgrown, _, _ => False

/-- What a function that is ranged over does: gf with what it has captured. -/
def Tells {α : Type} (F : Fence) (n : Nat) (P : Program) (gf : Nat) (lb : Array Value) (encs : α → Array Value) (G : α → World → Prop) (Keep : World → World → Prop) (Safe : World → Nat → Prop) (S Sp : List α → Prop) (w : World) : Prop :=
  ∀ (l : Nat) (J Jx : List α → World → Prop) (W : World), Below w.heap.size w W → (∀ k, k < w.heap.size → Safe w k → Safe W k) →
    (∀ pre X Y, J pre X → Ext X Y → J pre Y ∧ (∀ k, Safe X k → Safe Y k) ∧ ∀ k, X.heap.size ≤ k → Safe Y k) →
    (∀ pre x W1, Sp (pre ++ [x]) → J pre W1 → G x W1 → YieldAt F (n - 1) P l (encs x) W1 fun e W' =>
      (e = .returned (.bool true) ∧ J (pre ++ [x]) W' ∧ Keep W1 W') ∨ (e = .returned (.bool false) ∧ Jx (pre ++ [x]) W')) →
    J [] W →
    CallsIn F n P gf (#[.func (.yield l) #[] #[]] ++ lb) W fun e W' => (∃ v, e = .returned v) ∧ ((∃ xs, S xs ∧ J xs W') ∨ (∃ pre, Sp pre ∧ Jx pre W'))

theorem wpIn_tells {α : Type} {g : Operand} {ps : Array Tmp} {assign body : Code} {Q : Exit → Act → World → Prop} {a : Act} {w : World}
    (hro : F.round = none) (h1 : 1 ≤ n) {gf : Nat} {lb : Array Value} (hg : a.eval g = .func (.func gf) #[] lb) (hFg : F.fn gf) (eg : ∀ args w, (callFunc gf args).run P w = .ok (.enter gf args) w)
    {encs : α → Array Value} {G : α → World → Prop} {Keep : World → World → Prop} {Safe : World → Nat → Prop} {S Sp : List α → Prop}
    (hseq : Tells F (n - 1) P gf lb encs G Keep Safe S Sp w) (hps : ∀ x, (encs x).size = ps.size)
    (I : List α → World → Prop) (Ix : Code → List α → World → Prop) (Ax : α → Act → World → Prop)
    (hKeep : ∀ A X Y B, Turn w.heap.size A X → Keep X Y → Turn w.heap.size Y B → Keep A B)
    (hI : ∀ pre X Y, I pre X → Turn w.heap.size X Y → I pre Y ∧ (∀ k, Safe X k → Safe Y k) ∧ ∀ k, X.heap.size ≤ k → Safe Y k)
    (hIx : ∀ c pre X Y, Ix c pre X → Turn w.heap.size X Y → Ix c pre Y)
    (hG : ∀ x X Y, G x X → Turn w.heap.size X Y → G x Y)
    (hAx : ∀ x a' X Y, Ax x a' X → Turn w.heap.size X Y → Ax x a' Y)
    (h0 : I [] w)
    (hassign : ∀ (l : Nat) (pre : List α) (x : α) (W : World) (K : Act → World → Prop), I pre W → G x W → (∀ a' W', Ext W W' → Ax x a' W' → K a' W') →
      assign.wpIn (F.inRound l) (n - 1 - 1) P (Exit.then K (fun _ _ _ => False)) { tmps := (ps.zip (encs x)).foldl (fun t (p, v) => t.setIfInBounds p v) a.tmps, defers := [] } W)
    (hbody : ∀ (l : Nat) (pre : List α) (x : α) (a' : Act) (W : World), w.heap.size ≤ l → (∃ r, W.heap[l]? = some (.loop r)) → Sp (pre ++ [x]) → I pre W → G x W → Ax x a' W → body.wpIn (F.inRound l) (n - 1 - 1) P (tellPost w.heap.size Keep I Ix (pre ++ [x]) W) a' W)
    (hdone : ∀ (D : Nat) (xs : List α) (W : World), w.heap.size ≤ D → S xs → I xs W → W.heap[D]? = some (.deferred (some [])) → Q .normal { a with defers := { target := .collected D, args := #[] } :: a.defers } W)
    (hstop : ∀ (D : Nat) (c : Code) (pre : List α) (W : World), w.heap.size ≤ D → Sp pre → Ix c pre W → W.heap[D]? = some (.deferred (some [])) → c.wpIn F n P Q { a with defers := { target := .collected D, args := #[] } :: a.defers } W) :
    (Code.rangeFunc g ps assign body).wpIn F n P Q a w := by
  refine wpIn_rangeFunc fun fn hfn => ?_
  rw [hro]
  obtain ⟨rec, hrec⟩ : ∃ rec : LoopState → Option Code → Loop, rec = fun st pe => { state := st, pending := pe, fn, tmps := a.tmps, params := ps, assign, body, defers := w.heap.size } := ⟨_, rfl⟩
  obtain ⟨W1, hW1⟩ : ∃ W1, (w.alloc (.deferred (some []))).alloc (.loop (rec .ready none)) = W1 := ⟨_, rfl⟩
  have hE1 : Ext w W1 := by rw [← hW1]; exact (Ext.alloc w _).trans (Ext.alloc _ _)
  have hL1 : W1.heap[w.heap.size + 1]? = some (.loop (rec .ready none)) := by
    rw [← hW1]; have := World.alloc_heap_new (w.alloc (.deferred (some []))) (.loop (rec .ready none)); rwa [World.size_alloc] at this
  have hD1 : W1.heap[w.heap.size]? = some (.deferred (some [])) := by
    rw [← hW1]; exact (Below.heap_alloc _ _ _ (by simp)).trans (World.alloc_heap_new w _)
  have hI1 := hI [] w W1 h0 (Turn.of_ext hE1)
  refine ⟨w.heap.size + 1, [{ target := .collected w.heap.size, args := #[] }], W1, { target := .fn (.func gf) lb, args := #[.func (.yield (w.heap.size + 1)) #[] #[]] }, W1, gf,
    #[.func (.yield (w.heap.size + 1)) #[] #[]] ++ lb, W1, ?_, ?_, ?_, ?_, fun _ => h1, ?_⟩
  · rw [← hW1, hrec]; exact run_enterLoop_outer _ _ _ _ _
  · simp only [resolve, hg]
    simp [go_sem]
  · intro f' hf'; simp [Target.leads] at hf'; subst hf'; exact hFg
  · simp [invoke, go_sem, eg]
  refine (hseq (w.heap.size + 1)
      (fun pre W => I pre W ∧ W.heap[w.heap.size + 1]? = some (.loop (rec .ready none)) ∧ W.heap[w.heap.size]? = some (.deferred (some [])))
      (fun pre W => ∃ c, Ix c pre W ∧ W.heap[w.heap.size + 1]? = some (.loop (rec .done (some c))) ∧ W.heap[w.heap.size]? = some (.deferred (some [])))
      W1 hE1 (fun k _ h => hI1.2.1 k h) (fun pre X Y hJ hE => ?_) ?_ ⟨hI1.1, hL1, hD1⟩).mono ?_
  · obtain ⟨h2, h3, h4⟩ := hJ
    have := hI pre X Y h2 (Turn.of_ext hE)
    exact ⟨⟨this.1, (hE.block _ (Array.getElem?_eq_some_iff.1 h3).1).trans h3, (hE.block _ (Array.getElem?_eq_some_iff.1 h4).1).trans h4⟩, this.2⟩
  · rintro pre x W hSp ⟨hi, hl, hk⟩ hGx
    have hlt : w.heap.size + 1 < W.heap.size := (Array.getElem?_eq_some_iff.1 hl).1
    have hy := run_yield (P := P) (args := encs x) hl (by rw [hrec]; exact hps x)
    rw [hrec] at hy
    refine ⟨fn, _, assign, body, hy, roundIn_of_wpIn hfn (hassign _ pre x W _ hi hGx ?_)⟩
    clear hy
    intro a' Wa hEa hax
    have hla := (hEa.block _ hlt).trans hl
    have hka := (hEa.block w.heap.size (by omega)).trans hk
    have hlta : w.heap.size + 1 < Wa.heap.size := (Array.getElem?_eq_some_iff.1 hla).1
    refine ⟨_, run_beginRound hla (by rw [hrec]), ?_⟩
    obtain ⟨Wb, hWb⟩ : ∃ Wb, Wa.putObj (w.heap.size + 1) (.loop { rec .ready none with state := .busy }) = Wb := ⟨_, rfl⟩
    rw [hWb]
    have hTb : Turn w.heap.size Wa Wb := by rw [← hWb]; exact Turn.putObj _ (by omega) hla rfl
    have hTab : Turn w.heap.size W Wb := (Turn.of_ext hEa).trans hTb
    have hlb : Wb.heap[w.heap.size + 1]? = some (.loop { rec .ready none with state := .busy }) := by rw [← hWb]; exact World.putObj_heap_same hlta
    have hkb : Wb.heap[w.heap.size]? = some (.deferred (some [])) := by rw [← hWb]; exact (World.putObj_heap_other (by omega)).trans hka
    refine wpIn_mono (hbody _ pre x a' Wb (by omega) ⟨_, hlb⟩ hSp (hI pre W Wb hi hTab).1 (hG x W Wb hGx hTab) (hAx x a' Wa Wb hax hTb)) ?_
    have fin : ∀ (jump : Option Code) (W3 : World), KeepsRec w.heap.size Wb W3 →
        (Instr.endRound (w.heap.size + 1) jump).run P W3 = .ok (.bool jump.isNone) (W3.putObj (w.heap.size + 1) (.loop (rec (if jump.isNone then .ready else .done) jump))) ∧
        Turn w.heap.size W3 (W3.putObj (w.heap.size + 1) (.loop (rec (if jump.isNone then .ready else .done) jump))) ∧
        (W3.putObj (w.heap.size + 1) (.loop (rec (if jump.isNone then .ready else .done) jump))).heap[w.heap.size + 1]? = some (.loop (rec (if jump.isNone then .ready else .done) jump)) ∧
        (W3.putObj (w.heap.size + 1) (.loop (rec (if jump.isNone then .ready else .done) jump))).heap[w.heap.size]? = some (.deferred (some [])) := fun jump W3 hk3 => by
      have hl3 := hk3.same _ _ (by omega) hlb rfl
      have hk3' := hk3.same _ _ (Nat.le_refl _) hkb rfl
      have := run_endRound (P := P) jump hl3
      rw [hrec] at this ⊢
      exact ⟨this, Turn.putObj _ (by omega) hl3 rfl, World.putObj_heap_same (Array.getElem?_eq_some_iff.1 hl3).1, (World.putObj_heap_other (by omega)).trans hk3'⟩
    rintro e a3 W3 hp
    cases e with
    | normal =>
      obtain ⟨hk3, hkp3, hi3⟩ := hp
      obtain ⟨hr, hT, hl4, hk4⟩ := fin none W3 hk3
      exact ⟨_, _, hr, .inl ⟨rfl, ⟨(hI _ _ _ hi3 hT).1, hl4, hk4⟩, hKeep _ _ _ _ hTab hkp3 hT⟩⟩
    | ret =>
      obtain ⟨hk3, hi3⟩ := hp
      obtain ⟨hr, hT, hl4, hk4⟩ := fin (some .ret) W3 hk3
      exact ⟨_, _, hr, .inr ⟨rfl, .ret, hIx _ _ _ _ hi3 hT, hl4, hk4⟩⟩
    | exit id =>
      obtain ⟨hk3, hi3⟩ := hp
      obtain ⟨hr, hT, hl4, hk4⟩ := fin (some (.exit id)) W3 hk3
      exact ⟨_, _, hr, .inr ⟨rfl, .exit id, hIx _ _ _ _ hi3 hT, hl4, hk4⟩⟩
    | goto t =>
      obtain ⟨hk3, hi3⟩ := hp
      obtain ⟨hr, hT, hl4, hk4⟩ := fin (some (.goto t)) W3 hk3
      exact ⟨_, _, hr, .inr ⟨rfl, .goto t, hIx _ _ _ _ hi3 hT, hl4, hk4⟩⟩
    | panic ch => exact hp.elim
    | outgrown => exact hp.elim
  · rintro e W2 ⟨⟨v, rfl⟩, (⟨xs, hS, hi, hl, hk⟩ | ⟨pre, hSp, c, hi, hl, hk⟩)⟩
    · refine ⟨none, _, by have := run_endLoop (P := P) hl (by rw [hrec]; simp); rw [hrec] at this; exact this, ?_⟩
      exact hdone _ xs _ (Nat.le_refl _) hS (hI xs _ _ hi (Turn.putObj _ (by omega) hl rfl)).1 ((World.putObj_heap_other (by omega)).trans hk)
    · refine ⟨some c, _, by have := run_endLoop (P := P) hl (by rw [hrec]; simp); rw [hrec] at this; exact this, ?_⟩
      exact hstop _ c pre _ (Nat.le_refl _) hSp (hIx c pre _ _ hi (Turn.putObj _ (by omega) hl rfl)) ((World.putObj_heap_other (by omega)).trans hk)
end Go.Proofs.YtamolbegmkngdaaDoor
namespace Go.Proofs.YtamolbegmkngdaaDoor
open Go.RowKit
set_option maxHeartbeats 2000000
set_option maxRecDepth 100000

/-- What Add answers, and what it makes of the nodes. -/
def addE (M : List (Key × Nd)) (n : Nd) : Int :=
  if rightN n ≠ 0 then rightN n else if (mget M (keyN n)).isSome = true then 71 else if n.path.size = 1 ∨ mget M (parentB n.path).data.toList = none then 73 else 0
def addM (M : List (Key × Nd)) (n : Nd) : List (Key × Nd) := if addE M n = 0 then mput M (keyN n) n else M

def TreeTo (S : Nat → Prop) (w : World) (bt : Nat) (M' : List (Key × Nd)) (N' : Nat) (v : Value) (e : Ending) (w' : World) : Prop :=
  e = .returned v ∧ TreeAt (fun k => S k ∨ (w.heap.size ≤ k ∧ k < w'.heap.size)) w' bt M' N' ∧ Mod S w w'

theorem treeTo_same {S : Nat → Prop} {w w' : World} {bt : Nat} {M : List (Key × Nd)} {N N' : Nat} (hT : TreeAt S w bt M N) (hE : Ext w w') (hN : N ≤ N') (v : Value) : TreeTo S w bt M N' v (.returned v) w' :=
  ⟨rfl, (hT.ext hE).keep (fun _ _ => rfl) (fun _ h => .inl h) (fun k hk => hk.elim (fun h => Nat.lt_of_lt_of_le (hT.bound k h) hE.size) (fun h => h.2)) hN, Mod.of_ext hE⟩

theorem add_any (S : Nat → Prop) (w : World) (bt : Nat) (M : List (Key × Nd)) (N : Nat) (hT : TreeAt S w bt M N) (n : Nd) (da aa : Option Addr) (dc ac : Nat) (hu : Tabs w) (hf : Fit n) (hN : N < 4611686018427387904)
    (hD : Cells w.heap.size w da (n.data.map u8v)) (hA : Cells w.heap.size w aa (acCs n.acl)) :
    Calls Tryd.prog 23 #[.pointer (some ⟨bt, 0, none⟩), .agg (ndC n (.slice da n.data.length dc) (.slice aa n.acl.length ac))] w (TreeTo S w bt (addM M n) (N + 1) (.int .i64 (addE M n))) := by
  obtain ⟨W2, hW2⟩ : ∃ W2, W2 = w.alloc (.cells (ndC n (.slice da n.data.length dc) (.slice aa n.acl.length ac)) 37) := ⟨_, rfl⟩
  have he2 : Ext w W2 := by rw [hW2]; exact Ext.alloc _ _
  have hz2 : W2.heap.size = w.heap.size + 1 := by rw [hW2]; simp
  have hn2 : W2.heap[w.heap.size]? = some (.cells (ndC n (.slice da n.data.length dc) (.slice aa n.acl.length ac)) 37 (0, 0)) := by rw [hW2]; exact heap_alloc_new w _
  have hT2 := hT.ext he2
  have hD2 := hD.ext he2
  have hA2 := hA.ext he2
  have hu2 : Tabs W2 := hu.below he2 hu.size
  have CR := right_any n da aa dc ac W2 hf hu2 hA2
  rw [hW2] at CR
  have HW2 := Lib.hid hW2
  have HN := Lib.hid hn2
  have HTW := Lib.hid hT
  have HNW := Lib.hid (hW2 ▸ hn2)
  unfold ndC at CR HW2 HN HNW ⊢
  have CR := Lib.hid CR
  clear hW2 hn2 hT
  by_cases hr : rightN n = 0
  · have hM := hT2.ok
    have HR := Lib.hid hr
    have hps : n.path.size ≤ maxLen := by
      have := (vpath_facts (right_vpath hr)).2.1
      unfold maxLen; omega
    have hvp := right_vpath hr
    have hvf := vpath_facts hvp
    rw [hr] at CR
    clear hr
    go_enter Tryd.func23, Tryd.ntmps23
    go_wp2_with (refine wpList_load_row rfl 37 (.tmp 3) rfl w.heap.size rfl 37 _ (0, 0) _ HNW.out Tryd.underlying37 rfl sizeNd ?_)
    refine CR.out.mono ?_
    rintro e w3 ⟨rfl, hb3⟩
    rw [← HW2.out] at hb3
    have hE3 : Ext W2 w3 := hb3
    have hT3 := hT2.ext hE3
    have hn3 := (hE3.block w.heap.size (by omega)).trans HN.out
    have hD3 := hD2.ext hE3
    have hA3 := hA2.ext hE3
    have hEw3 := he2.trans hE3
    obtain ⟨bn, bk, K, hd, hNd, hKd⟩ := hT3
    clear CR HW2 HN HNW hb3 hz2 hD2 hA2 hu2 hT2
    go_wp2
    refine there_region _ _ _ _ _ _ _ _ _ _ _ _ 0 3 _ 54 rfl (by decide) (by decide) (by decide) hd hNd w.heap.size n.path _ hn3 rfl hps rfl rfl ?_
    intro v0 v1 v2 v3 v4 v5 v6 v7 v8 v9 v10 w4 hE4
    simp only [Act.put]
    go_simp
    rename_i hK
    refine hK _ _ ?_
    have hEw4 := hEw3.trans hE4
    have hT4 : TreeAt S w4 bt M N := TreeAt.ext ⟨bn, bk, K, hd, hNd, hKd⟩ hE4
    have hD4 := hD3.ext hE4
    have hA4 := hA3.ext hE4
    have hn4 := (hE4.block w.heap.size (Array.getElem?_eq_some_iff.1 hn3).1).trans hn3
    clear hd hNd hKd hn3 hD3 hA3 hEw3
    cases hg : mget M n.path.data.toList with
    | some y =>
      have hfin : TreeTo S w bt (addM M n) (N + 1) (.int .i64 (addE M n)) (.returned (.int .i64 71)) w4 := by
        have e : addE M n = 71 := by unfold addE; rw [if_neg (by rw [HR.out]; simp), if_pos (by unfold keyN; rw [hg]; rfl)]
        have e2 : addM M n = M := by unfold addM; rw [if_neg (by rw [e]; decide)]
        rw [e, e2]
        exact treeTo_same HTW.out hEw4 (by omega) _
      have HFIN := Lib.hid hfin
      clear hfin hT4 hEw4 hD4 hA4 hn4 hg
      go_wp2
      go_ret
      exact HFIN.out
    | none =>
      have HG := Lib.hid hg
      have hx4 : Box w4 w.heap.size (ndC n (.slice da n.data.length dc) (.slice aa n.acl.length ac)) := fun j => cell_of_row _ _ _ _ _ _ hn4
      have CP := parent_any n.path w4 (by omega)
      have hlt4 := (Array.getElem?_eq_some_iff.1 hn4).1
      have HN4 := Lib.hid hn4
      unfold Box ndC at hx4
      clear hg hn4
      have hpp : ∃ (pp : ByteArray) (ee : Int), parV n.path = .tuple #[.string pp, .int .i64 ee] ∧ pp.size ≤ maxLen ∧ ((n.path.size = 1 ∨ mget M (parentB n.path).data.toList = none) ↔ (mget M pp.data.toList = none ∨ ee ≠ 0)) ∧ (ee = 0 → pp = parentB n.path) := by
        by_cases hroot : n.path.size = 1
        · exact ⟨⟨#[]⟩, 30, by unfold parV; rw [if_neg (fun h => h.2 hroot)], by unfold maxLen; decide, ⟨fun _ => .inr (by decide), fun _ => .inl hroot⟩, fun h => by cases h⟩
        · have h1 := (path_split hvp hroot).2.2.1
          exact ⟨parentB n.path, 0, by unfold parV; rw [if_pos ⟨hvp, hroot⟩], by unfold maxLen; omega, ⟨fun h => .inl (h.resolve_left hroot), fun h => .inr (h.resolve_right (by simp))⟩, fun _ => rfl⟩
      obtain ⟨pp, ee, hpv, hpz, hiff, hpe⟩ := hpp
      rw [hpv] at CP
      have CP := Lib.hid CP
      have HIFF := Lib.hid hiff
      have HPE := Lib.hid hpe
      clear hpv hiff hpe hvp hvf
      go_wp2_with fail
      refine CP.out.mono ?_
      rintro e w5 ⟨rfl, hb5⟩
      have hE5 : Ext w4 w5 := hb5
      have hEw5 := hEw4.trans hE5
      have hT5 := hT4.ext hE5
      have hD5 := hD4.ext hE5
      have hA5 := hA4.ext hE5
      have hn5 := (hE5.block w.heap.size hlt4).trans HN4.out
      obtain ⟨bn, bk, K, hd, hNd, hKd⟩ := hT5
      have hT5 : TreeAt S w5 bt M N := ⟨bn, bk, K, hd, hNd, hKd⟩
      have hbox := TreeAt.box hd
      obtain ⟨cs, ⟨hc17, hc1⟩, hq, hq2, _⟩ := hNd.look pp hpz
      clear hq2
      have hsz17 : (Tryd.prog.info? 37).map (·.size) = some cs.size := by rw [hc17]; exact sizeNd
      have hzs : zeroNd.size = cs.size := by rw [hc17]; rfl
      obtain ⟨W6, hW6⟩ : ∃ W6, W6 = w5.alloc (.cells cs 37) := ⟨_, rfl⟩
      have HSET6 := Lib.hid ((setRow_alloc w5 zeroNd cs 37).trans hW6.symm)
      have HNew6 := Lib.hid (heap_alloc_new w5 (.cells zeroNd 37))
      have hE6 : Ext w5 W6 := by rw [hW6]; exact Ext.alloc _ _
      have hEw6 := hEw5.trans hE6
      have hT6 := hT5.ext hE6
      have hD6 := hD5.ext hE6
      have hA6 := hA5.ext hE6
      have hn6 := (hE6.block w.heap.size (Array.getElem?_eq_some_iff.1 hn5).1).trans hn5
      have HN6 := Lib.hid hn6
      have hhid : Hid (zeroNd.size = cs.size) := hzs
      unfold zeroNd at HSET6 HNew6
      unfold Box treeC at hbox
      unfold ndC at HN6
      have HC1 := Lib.hid hc1
      have H17 := Lib.hid hsz17
      clear hW6 hd hNd hKd hT5 hzs hc1 hc17 hsz17 CP hx4 hb5 HN4 hE6 hE5 hEw5 hn6 hn5 hD5 hA5 hT4 hD4 hA4 hEw4
      have bad : mget M pp.data.toList = none ∨ ee ≠ 0 → TreeTo S w bt (addM M n) (N + 1) (.int .i64 (addE M n)) (.returned (.int .i64 73)) W6 := fun h => by
        have e : addE M n = 73 := by
          unfold addE
          rw [if_neg (by rw [HR.out]; simp), if_neg (by unfold keyN; rw [HG.out]; simp), if_pos (HIFF.out.2 h)]
        have e2 : addM M n = M := by unfold addM; rw [if_neg (by rw [e]; decide)]
        rw [e, e2]
        exact treeTo_same HTW.out hEw6 (by omega) _
      have BAD := Lib.hid bad
      clear bad
      cases hg : mget M pp.data.toList with
      | none =>
        rw [hg] at hq
        have hq' : (Instr.lookup 64 (.map (some bn)) (.string pp) true).run Tryd.prog w5 = .ok (.tuple #[.agg cs, .bool false]) w5 := hq
        have HFIN := Lib.hid (BAD.out (.inl hg))
        clear hq hg hT6 hD6 hA6 hEw6
        go_wp2_with (refine wpList_store_row rfl 37 (.tmp 10) (.tmp 43) rfl w5.heap.size _ rfl rfl 37 _ HNew6.out H17.out hhid.out HC1.out ?_; rw [HSET6.out])
        go_ret
        exact HFIN.out
      | some y1 =>
        rw [hg] at hq
        have hq' : (Instr.lookup 64 (.map (some bn)) (.string pp) true).run Tryd.prog w5 = .ok (.tuple #[.agg cs, .bool true]) w5 := hq
        by_cases hee : ee = 0
        · subst hee
          have C3 := lay_any S W6 bt M N hT6 n da aa dc ac HR.out HG.out hN hD6 hA6
          have e : addE M n = 0 := by
            unfold addE
            rw [if_neg (by rw [HR.out]; simp), if_neg (by unfold keyN; rw [HG.out]; simp), if_neg (fun h => by
              rcases HIFF.out.1 h with h | h
              · rw [hg] at h; cases h
              · exact h rfl)]
          have e2 : addM M n = mput M (keyN n) n := by unfold addM; rw [if_pos e]
          have E1 := Lib.hid e
          have E2 := Lib.hid e2
          unfold ndC at C3
          have C3 := Lib.hid C3
          have hszw := hEw6.size
          clear hq hg hT6 hD6 hA6 e e2 BAD
          go_wp2_with (first | (refine wpList_store_row rfl 37 (.tmp 10) (.tmp 43) rfl w5.heap.size _ rfl rfl 37 _ HNew6.out H17.out hhid.out HC1.out ?_; rw [HSET6.out]) | (refine wpList_load_row rfl 37 (.tmp 3) rfl w.heap.size rfl 37 _ (0, 0) _ HN6.out Tryd.underlying37 rfl sizeNd ?_))
          refine C3.out.mono ?_
          rintro e w7 ⟨rfl, hT7, hM7⟩
          have hz7 := hM7.size
          have hb7 := HTW.out.bound
          have hfin : TreeTo S w bt (addM M n) (N + 1) (.int .i64 (addE M n)) (.returned (.int .i64 0)) w7 := by
            rw [E1.out, E2.out]
            exact ⟨rfl, hT7.keep (fun _ _ => rfl) (fun k hk => hk.imp id fun h => ⟨by omega, h.2⟩) (fun k hk => hk.elim (fun h => by have := hb7 k h; omega) (fun h => h.2)) (Nat.le_refl _), (Mod.of_ext hEw6).trans hM7⟩
          have HFIN := Lib.hid hfin
          clear C3 hT7 hM7 hEw6 hfin hb7
          go_wp2
          go_ret
          exact HFIN.out
        · have hne : (ee != 0) = true := by simpa using hee
          have HFIN := Lib.hid (BAD.out (.inr hee))
          clear hq hg hT6 hD6 hA6 hEw6 BAD hee
          go_wp2_with (refine wpList_store_row rfl 37 (.tmp 10) (.tmp 43) rfl w5.heap.size _ rfl rfl 37 _ HNew6.out H17.out hhid.out HC1.out ?_; rw [HSET6.out])
          go_ret
          exact HFIN.out
  · have hne : (rightN n != 0) = true := by simpa using hr
    have e : addE M n = rightN n := by unfold addE; rw [if_pos hr]
    have e2 : addM M n = M := by unfold addM; rw [if_neg (by rw [e]; exact hr)]
    have E1 := Lib.hid e
    have E2 := Lib.hid e2
    clear hr e e2
    go_enter Tryd.func23, Tryd.ntmps23
    go_wp2_with (refine wpList_load_row rfl 37 (.tmp 3) rfl w.heap.size rfl 37 _ (0, 0) _ HNW.out Tryd.underlying37 rfl sizeNd ?_)
    refine CR.out.mono ?_
    rintro e w3 ⟨rfl, hb3⟩
    rw [← HW2.out] at hb3
    have hfin : TreeTo S w bt (addM M n) (N + 1) (.int .i64 (addE M n)) (.returned (.int .i64 (rightN n))) w3 := by
      rw [E1.out, E2.out]
      exact treeTo_same HTW.out (he2.trans hb3) (by omega) _
    have HFIN := Lib.hid hfin
    clear hfin CR hb3 hT2 hD2 hA2 HN HNW HW2 hu2
    go_wp2
    go_ret
    exact HFIN.out
end Go.Proofs.YtamolbegmkngdaaDoor
