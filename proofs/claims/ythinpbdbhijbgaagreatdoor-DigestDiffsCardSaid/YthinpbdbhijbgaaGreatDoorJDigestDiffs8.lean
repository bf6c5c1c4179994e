/- What the rounds of TreeWalks keep. Small laws on memory: a store into the middle of a row; what changes but for a set of blocks; an append to a row of the call's own, in a region that draws. The walk of (*Tree).Stat. The step of a range over a map keyed by strings: the name is told to be among those that were left. What is under a path: itself and what is under its children. The list that grows while its places are gone through: in the end it holds what is under the first. The list under a path, sorted. The walk of paths.Join. Joining a node's path and a child's last part gives the child's path. The walk of (*Tree).under. The walks of the references' own texts up to Valid: whether a text is a path, as the document has it. The walks of the reference of paths up to Valid. The walk of arborref03.Order. -/
import Derived.Test.YthinpbdbhijbgaaGreatDoorJDigestDiffs7
import Derived.Test.YthinpbdbhijbgaaGreatDoorJDigestDiffs6
import Derived.Test.YthinpbdbhijbgaaGreatDoorJDigestDiffs5
import Derived.Deep.RegionLaw
import Derived.Test.YthinpbdbhijbgaaGreatDoorJDigestDiffs3
import Derived.Maps.RangeWalk
import Derived.Test.YthinpbdbhijbgaaGreatDoorJDigestDiffs4
import Derived.Lib.IndexLaws
import Derived.Sort.OwnSorted
import Derived.Great.BuildSlice
import Derived.Test.YthinpbdbhijbgaaGreatDoorJDigestDiffs1
import Derived.BigQuiet
namespace Go.Proofs.YthinpbdbhijbgaaGreatDoor
open Go.RowKit Go.Sort
set_option maxHeartbeats 4000000
set_option maxRecDepth 100000
attribute [local go_sem] Oper.semAt_some

theorem nodesOf_vals {M : List (Key × Nd)} (h : MSorted M) : nodesOf M (M.map (·.1)) = M.map (·.2) := by
  unfold nodesOf
  rw [List.map_map]
  refine List.map_congr_left fun x hx => ?_
  show (mget M x.1).getD zeroN = x.2
  rw [mget_of_mem h (show (x.1, x.2) ∈ M from hx)]
  rfl

theorem NdsAt.ext {w w' : World} {a : Option Addr} {L : List Nd} (h : NdsAt w.heap.size w a L) (hb : Ext w w') : NdsAt w'.heap.size w' a L := fun i n hi => by
  obtain ⟨b, off, v, h1, h2, h3, h4⟩ := h i n hi
  exact ⟨b, off, v, h1, Nat.lt_of_lt_of_le h2 hb.size, (h3.below hb).mono hb.size, fun j u hj => (hb.cell (p := ⟨b, off + i * 17 + j, none⟩) h2).trans (h4 j u hj)⟩

theorem wp_skipped {P : Program} {Q : Exit → Act → World → Prop} {o : Oper} {a : Act} {w w' : World} {K : Act → World → Prop} (h : (execOp a.eval o).run P w = .ok .skip w') (hk : K (a.put o.dst undef) w') : o.wp P a w K Q := by
  unfold Oper.wp
  rw [h]
  exact hk
/-- The first loop's rounds. -/
structure WalkC (S : Nat → Prop) (bt ga N : Nat) (M : List (Key × Nd)) (w W7 : World) (m at' : Nat) (W : World) : Prop where
  one : 1 ≤ m
  le : m ≤ M.length
  tree : TreeAt S W bt (M.take m) N
  box : W.heap[ga]? = some (.cells #[.int .i64 at'] 3 (0, 0))
  cells : ∀ k c e f, W7.heap[k]? = some (.cells c e f) → k ≠ ga → W.heap[k]? = some (.cells c e f)
  size : W7.heap.size ≤ W.heap.size
  keep : Below w.heap.size w W
theorem WalkC.turn {S : Nat → Prop} {bt ga N : Nat} {M : List (Key × Nd)} {w W7 : World} {m p : Nat} {X Y : World} (h : WalkC S bt ga N M w W7 m p X) (hT : Turn W7.heap.size X Y) (hS : ∀ k, S k → k < W7.heap.size) (hw : w.heap.size ≤ W7.heap.size) : WalkC S bt ga N M w W7 m p Y :=
  ⟨h.one, h.le, h.tree.keep (fun k hk => by
      have hlt := h.tree.bound k hk
      rw [hT.same k _ (Array.getElem?_eq_getElem hlt) (.inl (hS k hk)), Array.getElem?_eq_getElem hlt]) (fun _ h => h) (fun k hk => Nat.lt_of_lt_of_le (h.tree.bound k hk) hT.size) (Nat.le_refl _),
    hT.cells h.box, fun k c e f hk hn => hT.cells (h.cells k c e f hk hn), Nat.le_trans h.size hT.size, h.keep.trans (hT.below hw h.keep.size)⟩

theorem ex_load_at {P : Program} {o : Oper} {a : Act} {w : World} {ty : TypeId} {x : Operand} (ho : o.op = .load ty x) (p : Addr) (hx : a.eval x = .pointer (some p)) (cs : Array Value) (hc : ∀ j u, cs[j]? = some u → w.cell? (p.add j) = some u) {d : TypeDesc}
    (hu : P.underlying ty = some d) (hd : oneD d = false) (hi : (P.info? ty).map (·.size) = some cs.size) : (execOp a.eval o).run P w = .ok (.value (.agg cs)) w := by
  unfold execOp
  simp only [ho, hx, Instr.loadAt, Instr.sureAddr, Sem.run_bind, Sem.run_pure, Result.andThen_ok, run_loadVar_at w p ty cs d hc hu hd hi]

theorem nds_parts {S : Nat → Prop} {w : World} {n : Nd} {da aa : Option Addr} {dc ac : Nat} (h : NdS S w (.agg (ndC n (.slice da n.data.length dc) (.slice aa n.acl.length ac))) n) : CellsS S w da (n.data.map u8v) ∧ CellsS S w aa (acCs n.acl) := by
  obtain ⟨da', dc', aa', ac', e4, h4, h5⟩ := h
  simp only [Value.agg.injEq] at e4
  have q1 := congrArg (·[1]?) e4
  have q2 := congrArg (·[2]?) e4
  simp [ndC] at q1 q2
  rw [q1.1, q2.1]
  exact ⟨h4, h5⟩

/-- What a round's steps keep. -/
structure Kp (B ga : Nat) (W W' : World) : Prop where
  recs : KeepsRec B W W'
  cells : KeepS (fun _ k => k ≠ ga) W W'
theorem Kp.trans {B ga : Nat} {X Y Z : World} (h : Kp B ga X Y) (k : Kp B ga Y Z) : Kp B ga X Z :=
  ⟨h.recs.trans k.recs, Nat.le_trans h.cells.1 k.cells.1, fun i c e f hi hs => k.cells.2 i c e f (h.cells.2 i c e f hi hs).1 hs⟩
theorem Kp.ext {B ga : Nat} {W W' : World} (h : Ext W W') : Kp B ga W W' :=
  ⟨KeepsRec.of_ext h, h.size, fun _ _ _ _ hk hs => ⟨(h.block _ (Array.getElem?_eq_some_iff.1 hk).1).trans hk, hs⟩⟩
theorem Kp.set {B ga : Nat} (W : World) (cs : Array Value) (h : ga < B) : Kp B ga W (W.setRow ga cs) :=
  ⟨⟨by simp, fun k o hB hk _ => (setRow_other _ _ _ _ (by omega)).trans hk⟩, by simp, fun k c e f hk hs => ⟨(setRow_other _ _ _ _ hs).trans hk, hs⟩⟩
theorem WalkC.ext {S : Nat → Prop} {bt ga N : Nat} {M : List (Key × Nd)} {w W7 : World} {m p : Nat} {X Y : World} (h : WalkC S bt ga N M w W7 m p X) (hE : Ext X Y) (hS : ∀ k, S k → k < W7.heap.size) (hw : w.heap.size ≤ W7.heap.size) : WalkC S bt ga N M w W7 m p Y :=
  h.turn (Turn.of_ext hE) hS hw
theorem WalkC.cell {S : Nat → Prop} {bt ga N : Nat} {M : List (Key × Nd)} {w W7 : World} {m p : Nat} {X : World} (h : WalkC S bt ga N M w W7 m p X) {b o : Nat} {u : Value} (hu : W7.cell? ⟨b, o, none⟩ = some u) (hb : b ≠ ga) : X.cell? ⟨b, o, none⟩ = some u := by
  obtain ⟨c', e', f', hk'⟩ := cell_cells hu
  rw [World.cell?_of_block ((h.cells b c' e' f' hk' hb).trans hk'.symm)]
  exact hu


end Go.Proofs.YthinpbdbhijbgaaGreatDoor
namespace Go.Proofs.YthinpbdbhijbgaaGreatDoor
open Go.RowKit
set_option maxHeartbeats 2000000

section
variable {P : Program} {o : Oper} {a : Act} {w : World}
theorem run_store_in (ty : TypeId) (x y : Operand) (ho : o.op = .store ty x y) (g k : Nat) (v : Value) (hx : a.eval x = .pointer (some ⟨g, k, none⟩)) (hy : a.eval y = v) (h1 : ∀ u ∈ v.cells.toList, u.oneCell' = true)
    (t : TypeId) (cur : Array Value) (hg : w.heap[g]? = some (.cells cur t (0, 0))) (hk : k + v.cells.size ≤ cur.size) (hi : (P.info? ty).map (·.size) = some v.cells.size) :
    (execOp a.eval o).run P w = .ok .skip (w.setRow g (cur.toList.take k ++ v.cells.toList ++ cur.toList.drop (k + v.cells.toList.length)).toArray) := by
  subst hy
  have hst := run_storeCells_at P g k t (a.eval y).cells.toList 0 cur w hg (by simpa using hk) h1
  simp only [Nat.add_zero] at hst
  cases hq : P.info? ty with
  | none => simp [hq] at hi
  | some i =>
    have hs : i.size = (a.eval y).cells.size := by simpa [hq] using hi
    unfold execOp
    simp only [ho, hx, Instr.storeAt, Instr.sureAddr, Sem.run_bind, Sem.run_pure, Result.andThen_ok]
    simp [storeVar, sizeOf, typeInfo, hq, hs, hst, Result.andThen]

theorem wpList_store_in {ops : Array Oper} {rest : List Oper} {Q : Exit → Act → World → Prop} (hgd : o.guard = none) (ty : TypeId) (x y : Operand) (ho : o.op = .store ty x y) (g k : Nat) (v : Value) (hx : a.eval x = .pointer (some ⟨g, k, none⟩)) (hy : a.eval y = v) (h1 : ∀ u ∈ v.cells.toList, u.oneCell' = true)
    (t : TypeId) (cur : Array Value) (hg : w.heap[g]? = some (.cells cur t (0, 0))) (hk : k + v.cells.size ≤ cur.size) (hi : (P.info? ty).map (·.size) = some v.cells.size) (cs : Array Value) (hcs : (cur.toList.take k ++ v.cells.toList ++ cur.toList.drop (k + v.cells.toList.length)).toArray = cs)
    (h : wpList P ops Q rest (a.put o.dst undef) (w.setRow g cs)) : wpList P ops Q (o :: rest) a w :=
  wpList_plain hgd fun K hK => wp_skipped (run_store_in ty x y ho g k v hx hy h1 t cur hg hk hi) (by rw [hcs]; exact hK _ _ h)

theorem wp_store_in {K : Act → World → Prop} {Q : Exit → Act → World → Prop} (ty : TypeId) (x y : Operand) (g k : Nat) (v : Value) (t : TypeId) (cur cs : Array Value) (hg : w.heap[g]? = some (.cells cur t (0, 0))) (hk : k + v.cells.size ≤ cur.size) (hi : (P.info? ty).map (·.size) = some v.cells.size)
    (hcs : (cur.toList.take k ++ v.cells.toList ++ cur.toList.drop (k + v.cells.toList.length)).toArray = cs) (h1 : ∀ u ∈ v.cells.toList, u.oneCell' = true) (hK : K (a.put o.dst undef) (w.setRow g cs))
    (ho : o.op = .store ty x y) (hx : a.eval x = .pointer (some ⟨g, k, none⟩)) (hy : a.eval y = v) : o.wp P a w K Q :=
  wp_skipped (run_store_in ty x y ho g k v hx hy h1 t cur hg hk hi) (by rw [hcs]; exact hK)

end

/-- All is as it was, but for blocks of a set. -/
structure Chg (S : Nat → Prop) (w w' : World) : Prop where
  os : w'.os = w.os
  tape : w'.tape = w.tape
  output : w'.output = w.output
  size : w.heap.size ≤ w'.heap.size
  same : ∀ k, k < w.heap.size → ¬ S k → w'.heap[k]? = w.heap[k]?
theorem Chg.refl (S : Nat → Prop) (w : World) : Chg S w w := ⟨rfl, rfl, rfl, Nat.le_refl _, fun _ _ _ => rfl⟩
theorem Chg.trans {S S' : Nat → Prop} {a b c : World} (h : Chg S a b) (k : Chg S' b c) (hS : ∀ i, i < a.heap.size → S' i → S i) : Chg S a c :=
  ⟨k.os.trans h.os, k.tape.trans h.tape, k.output.trans h.output, Nat.le_trans h.size k.size, fun i hi hn => (k.same i (Nat.lt_of_lt_of_le hi h.size) fun hs => hn (hS i hi hs)).trans (h.same i hi hn)⟩
theorem Chg.of_ext {S : Nat → Prop} {a b : World} (h : Ext a b) : Chg S a b := ⟨h.os, h.tape, h.output, h.size, fun k hk _ => h.block k hk⟩
theorem Chg.set {S : Nat → Prop} (r : Nat) (w : World) (cs : Array Value) (hr : S r) : Chg S w (w.setRow r cs) := ⟨rfl, rfl, rfl, by simp, fun k _ hn => setRow_other _ _ _ _ fun e => hn (e ▸ hr)⟩
theorem Chg.grown {S : Nat → Prop} {a b : World} {row : Option Nat} (h : a.grownBy b row) (hr : ∀ k, row = some k → k < a.heap.size → S k) : Chg S a b :=
  ⟨h.os, h.tape, h.output, h.size, fun k hk hn => h.block k hk fun e => hn (hr k e.symm hk)⟩
theorem Chg.below {S : Nat → Prop} {B : Nat} {w w' : World} (h : Chg S w w') (hB : ∀ k, S k → B ≤ k) (hs : B ≤ w.heap.size) : Below B w w' :=
  ⟨h.os, h.tape, h.output, h.size, fun k hk => h.same k (by omega) fun hs => by have := hB k hs; omega⟩
theorem Chg.mono {S S' : Nat → Prop} {w w' : World} (h : Chg S w w') (hS : ∀ k, k < w.heap.size → S k → S' k) : Chg S' w w' := ⟨h.os, h.tape, h.output, h.size, fun k hk hn => h.same k hk fun hs => hn (hS k hk hs)⟩
end Go.Proofs.YthinpbdbhijbgaaGreatDoor
namespace Go.Proofs.YthinpbdbhijbgaaGreatDoor
open Go.RowKit
set_option maxHeartbeats 2000000
set_option maxRecDepth 100000

/-- What the region has done. -/
def StG (W3 : World) (gs : Nat) (cs : Array Value) (d : Nat → Bool) (W : World) : Prop :=
  Chg (· = gs) W3 W ∧ W.heap[gs]? = some (.cells (if d 9 = true then cs else zeroStat) 139 (0, 0))
theorem StG.ext {W3 : World} {gs : Nat} {cs : Array Value} {i : Nat} (hi : i ≠ 9) (d d' : Nat → Bool) (w w' : World) (h : StG W3 gs cs d w) (he : Ext w w') (hd : ∀ k, k ≠ i → d' k = d k) : StG W3 gs cs d' w' := by
  obtain ⟨h1, h2⟩ := h
  refine ⟨h1.trans (Chg.of_ext (S := fun _ => False) he) (fun _ _ h => h.elim), ?_⟩
  rw [hd 9 (Ne.symm hi), he.block gs (Array.getElem?_eq_some_iff.1 h2).1]
  exact h2
end Go.Proofs.YthinpbdbhijbgaaGreatDoor
namespace Go.Proofs.YthinpbdbhijbgaaGreatDoor
open Go.RowKit
set_option maxHeartbeats 1000000

section
variable {P : Program} {ops : Array Oper} {rest : List Oper} {o : Oper} {a : Act} {Q : Exit → Act → World → Prop}
end
end Go.Proofs.YthinpbdbhijbgaaGreatDoor
namespace Go.Proofs.YthinpbdbhijbgaaGreatDoor
open Go.RowKit
set_option maxHeartbeats 1000000

/-- The steps from a path to the root: is s among them? -/
def undF : Nat → ByteArray → ByteArray → Bool
  | 0, p, s => p.data == s.data
  | f + 1, p, s => p.data == s.data || (p.size != 1 && undF f (parentB p) s)
def und (p s : ByteArray) : Bool := undF p.size p s

/-- Each node's parent is there. -/
def Clo (M : List (Key × Nd)) : Prop := ∀ x ∈ M, x.2.path.size ≠ 1 → ∃ y ∈ M, y.2.path = parentB x.2.path

theorem und_size {M : List (Key × Nd)} (hM : MOk M) (hc : Clo M) : ∀ (f : Nat) (x : Key × Nd), x ∈ M → ∀ s, undF f x.2.path s = true → s.size ≤ x.2.path.size
  | 0, x, _, s, h => by
    have : x.2.path = s := by
      simp only [undF, beq_iff_eq] at h
      exact ByteArray.ext h
    rw [this]; exact Nat.le_refl _
  | f + 1, x, hx, s, h => by
    simp only [undF, Bool.or_eq_true, beq_iff_eq, Bool.and_eq_true, bne_iff_ne, ne_eq] at h
    rcases h with h | ⟨h1, h⟩
    · have : x.2.path = s := ByteArray.ext h
      rw [this]; exact Nat.le_refl _
    · obtain ⟨y, hy, ey⟩ := hc x hx h1
      have := und_size hM hc f y hy s (by rw [ey]; exact h)
      have hs := (path_split (right_vpath (hM.right x hx)) h1).2.2.1
      rw [ey] at this
      omega

theorem MOk.pos {M : List (Key × Nd)} (hM : MOk M) {x : Key × Nd} (hx : x ∈ M) : 0 < x.2.path.size := by
  have := (vpath_facts (right_vpath (hM.right x hx))).1
  omega

theorem und_fuel {M : List (Key × Nd)} (hM : MOk M) (hc : Clo M) : ∀ (f g : Nat) (x : Key × Nd), x ∈ M → x.2.path.size ≤ f → x.2.path.size ≤ g → ∀ s, undF f x.2.path s = undF g x.2.path s
  | 0, _, x, hx, hf, _, s => by have := hM.pos hx; omega
  | _ + 1, 0, x, hx, _, hg, s => by have := hM.pos hx; omega
  | f + 1, g + 1, x, hx, hf, hg, s => by
    simp only [undF]
    by_cases h1 : x.2.path.size = 1
    · simp only [h1, bne_self_eq_false, Bool.false_and]
    · obtain ⟨y, hy, ey⟩ := hc x hx h1
      have hs := (path_split (right_vpath (hM.right x hx)) h1).2.2.1
      have e1 := und_fuel hM hc f g y hy (by rw [ey]; omega) (by rw [ey]; omega) s
      rw [ey] at e1
      rw [e1]

theorem und_one {M : List (Key × Nd)} (hM : MOk M) {x : Key × Nd} (hx : x ∈ M) (h1 : x.2.path.size = 1) (s : ByteArray) : und x.2.path s = (x.2.path.data == s.data) := by
  unfold und
  rw [h1]
  simp only [undF, h1, bne_self_eq_false, Bool.false_and, Bool.or_false]

theorem und_up {M : List (Key × Nd)} (hM : MOk M) (hc : Clo M) {x y : Key × Nd} (hx : x ∈ M) (hy : y ∈ M) (h1 : x.2.path.size ≠ 1) (ey : y.2.path = parentB x.2.path) (s : ByteArray) :
    und x.2.path s = (x.2.path.data == s.data || und y.2.path s) := by
  have hp := hM.pos hx
  have hs := (path_split (right_vpath (hM.right x hx)) h1).2.2.1
  obtain ⟨g, hg⟩ : ∃ g, x.2.path.size = g + 1 := ⟨x.2.path.size - 1, by omega⟩
  have e1 := und_fuel hM hc g y.2.path.size y hy (by rw [ey]; omega) (Nat.le_refl _) s
  have h2 : (x.2.path.size != 1) = true := by simpa using h1
  unfold und
  rw [hg]
  simp only [undF]
  rw [hg] at h2
  rw [hg, h2, ← ey, e1, Bool.true_and]

theorem und_le {M : List (Key × Nd)} (hM : MOk M) (hc : Clo M) {x : Key × Nd} (hx : x ∈ M) {s : ByteArray} (h : und x.2.path s = true) : s.size ≤ x.2.path.size := und_size hM hc _ x hx s h

section sums
variable {α β : Type}
end sums

/-- A list that holds s and the children of each that it holds has all that is under s. -/
theorem und_closed {M : List (Key × Nd)} (hM : MOk M) (hc : Clo M) (s : ByteArray) (l : List ByteArray) (hs : s ∈ l) (hl : ∀ x ∈ M, x.2.path.size ≠ 1 → parentB x.2.path ∈ l → x.2.path ∈ l) :
    ∀ (f : Nat) (x : Key × Nd), x ∈ M → x.2.path.size ≤ f → und x.2.path s = true → x.2.path ∈ l
  | 0, x, hx, hf, _ => by have := hM.pos hx; omega
  | f + 1, x, hx, hf, h => by
    by_cases h1 : x.2.path.size = 1
    · rw [und_one hM hx h1] at h
      rw [ByteArray.ext (beq_iff_eq.1 h)]; exact hs
    · obtain ⟨y, hy, ey⟩ := hc x hx h1
      have hsz := (path_split (right_vpath (hM.right x hx)) h1).2.2.1
      rw [und_up hM hc hx hy h1 ey, Bool.or_eq_true] at h
      rcases h with h | h
      · rw [ByteArray.ext (beq_iff_eq.1 h)]; exact hs
      · exact hl x hx h1 (by rw [← ey]; exact und_closed hM hc s l hs hl f y hy (by rw [ey]; omega) h)

theorem und_child {M : List (Key × Nd)} (hM : MOk M) (hc : Clo M) {x y : Key × Nd} (hx : x ∈ M) (hy : y ∈ M) (h : childOf y.2.path x.2 = true) (s : ByteArray) (hu : und y.2.path s = true) : und x.2.path s = true := by
  obtain ⟨h1, h2⟩ := childOf_iff.1 h
  rw [und_up hM hc hx hy h1 h2.symm, hu, Bool.or_true]
end Go.Proofs.YthinpbdbhijbgaaGreatDoor
namespace Go.Proofs.YthinpbdbhijbgaaGreatDoor
open Go.RowKit
set_option maxHeartbeats 1000000

theorem nodup_at {l : List ByteArray} (h : l.Nodup) {i j : Nat} (hi : i < l.length) (hj : j < l.length) (e : l[i] = l[j]) : i = j := by
  have hp := List.pairwise_iff_getElem.1 h
  rcases Nat.lt_trichotomy i j with hij | hij | hij
  · exact absurd e (hp i j hi hj hij)
  · exact hij
  · exact absurd e.symm (hp j i hj hi hij)
theorem nodup_len : ∀ (l m : List ByteArray), l.Nodup → l ⊆ m → l.length ≤ m.length
  | [], m, _, _ => Nat.zero_le _
  | a :: l, m, h, hs => by
    obtain ⟨h1, h2⟩ := List.nodup_cons.1 h
    obtain ⟨u, v, e⟩ := List.append_of_mem (hs (List.mem_cons_self ..))
    have := nodup_len l (u ++ v) h2 fun b hb => by
      have hb' := hs (List.mem_cons_of_mem _ hb)
      rw [e] at hb'
      rcases List.mem_append.1 hb' with hb' | hb'
      · exact List.mem_append_left _ hb'
      · rcases List.mem_cons.1 hb' with hb' | hb'
        · subst hb'; exact absurd hb h1
        · exact List.mem_append_right _ hb'
    rw [e]
    simp only [List.length_append, List.length_cons] at this ⊢
    omega

/-- l's places ahead of i are done, of place i those children that are not left. -/
structure Bfs (M : List (Key × Nd)) (s : ByteArray) (l : List ByteArray) (i : Nat) (left : Key → Bool) : Prop where
  head : s ∈ l
  nodup : l.Nodup
  mem : ∀ p ∈ l, ∃ x ∈ M, x.2.path = p ∧ und p s = true
  done : ∀ j p, j < i → l[j]? = some p → ∀ x ∈ M, childOf p x.2 = true → x.2.path ∈ l
  part : ∀ p, l[i]? = some p → ∀ x ∈ M, childOf p x.2 = true → left (nameK x.2) = false → x.2.path ∈ l
  back : ∀ p ∈ l, p = s ∨ ∃ j q, l[j]? = some q ∧ p.size ≠ 1 ∧ parentB p = q ∧ (j < i ∨ (j = i ∧ left (nameB p).data.toList = false))

theorem Bfs.round {M : List (Key × Nd)} {s : ByteArray} {l : List ByteArray} {i : Nat} {left : Key → Bool} (h : Bfs M s l i left) {p : ByteArray} (hp : l[i]? = some p) (hl : ∀ y ∈ kidsOf M p, left y.1 = false) : Bfs M s l (i + 1) (fun _ => true) :=
  ⟨h.head, h.nodup, h.mem, fun j q hj hq x hx hc => by
    by_cases hji : j = i
    · subst hji
      have e : p = q := Option.some.inj (hp.symm.trans hq)
      subst e
      exact h.part p hp x hx hc (hl _ (mem_kids.2 ⟨x, hx, hc, rfl⟩))
    · exact h.done j q (by omega) hq x hx hc, fun p _ y _ _ hh => by simp at hh, fun q hq => by
    rcases h.back q hq with e | ⟨j, r, h1, h2, h3, h4⟩
    · exact .inl e
    · exact .inr ⟨j, r, h1, h2, h3, .inl (by rcases h4 with h4 | h4 <;> omega)⟩⟩

theorem Bfs.step {M : List (Key × Nd)} (hM : MOk M) (hc : Clo M) {s : ByteArray} {l : List ByteArray} {i : Nat} {left : Key → Bool} (h : Bfs M s l i left) {p : ByteArray} (hp : l[i]? = some p) {x : Key × Nd} (hx : x ∈ M) (hch : childOf p x.2 = true) (hleft : left (nameK x.2) = true) :
    Bfs M s (l ++ [x.2.path]) i (fun k => left k && !(k == nameK x.2)) := by
  obtain ⟨c1, c2⟩ := childOf_iff.1 hch
  obtain ⟨y, hy, ey, hu⟩ := h.mem p (List.mem_of_getElem? hp)
  have hsz := (path_split (right_vpath (hM.right x hx)) c1).2.2.1
  have hnew : x.2.path ∉ l := by
    intro hm
    rcases h.back _ hm with e | ⟨j, q, h1, h2, h3, h4⟩
    · have := und_le hM hc hy (by rw [ey]; exact hu)
      rw [← e, ey, ← c2] at this
      omega
    · rw [c2] at h3
      subst h3
      have hj : j = i := by
        obtain ⟨a1, a2⟩ := List.getElem?_eq_some_iff.1 h1
        obtain ⟨b1, b2⟩ := List.getElem?_eq_some_iff.1 hp
        exact nodup_at h.nodup a1 b1 (a2.trans b2.symm)
      rcases h4 with h4 | ⟨_, h4⟩
      · omega
      · rw [show (nameB x.2.path).data.toList = nameK x.2 from rfl, hleft] at h4; cases h4
  obtain ⟨hi, ei⟩ := List.getElem?_eq_some_iff.1 hp
  have old : ∀ j q, (l ++ [x.2.path])[j]? = some q → j ≤ i → l[j]? = some q := fun j q hq hji => by
    rwa [List.getElem?_append_left (by omega)] at hq
  refine ⟨by simp [h.head], ?_, fun q hq => ?_, fun j q hj hq z hz hcz => ?_, fun q hq z hz hcz hlz => ?_, fun q hq => ?_⟩
  · rw [List.nodup_append]
    refine ⟨h.nodup, by simp, fun a ha b hb => ?_⟩
    have : b = x.2.path := by simpa using hb
    subst this
    exact fun e => hnew (e ▸ ha)
  · rcases List.mem_append.1 hq with hq | hq
    · exact h.mem q hq
    · have : q = x.2.path := by simpa using hq
      subst this
      exact ⟨x, hx, rfl, und_child hM hc hx hy (by rw [ey]; exact hch) s (by rw [ey]; exact hu)⟩
  · exact List.mem_append_left _ (h.done j q hj (old j q hq (by omega)) z hz hcz)
  · have hq' := old i q hq (Nat.le_refl _)
    have e : p = q := Option.some.inj (hp.symm.trans hq')
    subst e
    by_cases hn : nameK z.2 = nameK x.2
    · obtain ⟨d1, d2⟩ := childOf_iff.1 hcz
      have : z.2.path = x.2.path := by
        have a1 := (path_split (right_vpath (hM.right z hz)) d1).1
        have a2 := (path_split (right_vpath (hM.right x hx)) c1).1
        apply ba_ext
        rw [a1, a2, d2, c2]
        unfold nameK at hn
        rw [hn]
      rw [this]; simp
    · refine List.mem_append_left _ (h.part p hq' z hz hcz ?_)
      simpa [hn] using hlz
  · rcases List.mem_append.1 hq with hq | hq
    · rcases h.back q hq with e | ⟨j, r, h1, h2, h3, h4⟩
      · exact .inl e
      · refine .inr ⟨j, r, ?_, h2, h3, ?_⟩
        · rw [List.getElem?_append_left (List.getElem?_eq_some_iff.1 h1).1]; exact h1
        · rcases h4 with h4 | ⟨h4, h5⟩
          · exact .inl h4
          · exact .inr ⟨h4, by rw [h5]; rfl⟩
    · have : q = x.2.path := by simpa using hq
      subst this
      refine .inr ⟨i, p, ?_, c1, c2, .inr ⟨rfl, ?_⟩⟩
      · rw [List.getElem?_append_left hi]; exact hp
      · rw [show (nameB x.2.path).data.toList = nameK x.2 from rfl]
        simp

/-- In the end: just what is under s. -/
theorem Bfs.all {M : List (Key × Nd)} (hM : MOk M) (hc : Clo M) {s : ByteArray} {l : List ByteArray} {left : Key → Bool} (h : Bfs M s l l.length left) (p : ByteArray) : p ∈ l ↔ ∃ x ∈ M, x.2.path = p ∧ und p s = true := by
  constructor
  · exact h.mem p
  · rintro ⟨x, hx, rfl, hu⟩
    refine und_closed hM hc s l h.head (fun z hz h1 hpz => ?_) _ x hx (Nat.le_refl _) hu
    obtain ⟨j, hj, ej⟩ := List.getElem_of_mem hpz
    exact h.done j _ hj (by rw [List.getElem?_eq_getElem hj, ej]) z hz (childOf_iff.2 ⟨h1, rfl⟩)

/-- How long it gets. -/
theorem Bfs.length_le {M : List (Key × Nd)} {s : ByteArray} {l : List ByteArray} {i : Nat} {left : Key → Bool} (h : Bfs M s l i left) : l.length ≤ M.length := by
  have hsub : l ⊆ M.map (fun x => x.2.path) := fun p hp => by
    obtain ⟨x, hx, e, _⟩ := h.mem p hp
    exact List.mem_map.2 ⟨x, hx, e⟩
  have := nodup_len l _ h.nodup hsub
  simpa using this
end Go.Proofs.YthinpbdbhijbgaaGreatDoor
namespace Go.Proofs.YthinpbdbhijbgaaGreatDoor
open Go.RowKit
set_option maxHeartbeats 1000000

theorem perm_nodup : ∀ (l m : List Key), l.Nodup → m.Nodup → (∀ x, x ∈ l ↔ x ∈ m) → l.Perm m
  | [], m, _, _, h => by
    cases m with
    | nil => exact .refl _
    | cons b m => exact absurd ((h b).2 (List.mem_cons_self ..)) (by simp)
  | a :: l, m, hl, hm, h => by
    obtain ⟨u, v, rfl⟩ := List.append_of_mem ((h a).1 (List.mem_cons_self ..))
    obtain ⟨h1, h2⟩ := List.nodup_cons.1 hl
    have hm' : (a :: (u ++ v)).Nodup := (List.perm_middle.nodup_iff).1 hm
    obtain ⟨k1, k2⟩ := List.nodup_cons.1 hm'
    refine ((perm_nodup l (u ++ v) h2 k2 fun x => ?_).cons a).trans List.perm_middle.symm
    constructor
    · intro hx
      have := (h x).1 (List.mem_cons_of_mem _ hx)
      have hne : x ≠ a := fun e => h1 (e ▸ hx)
      simp only [List.mem_append, List.mem_cons] at this ⊢
      rcases this with h | h | h
      · exact .inl h
      · exact absurd h hne
      · exact .inr h
    · intro hx
      have hne : x ≠ a := fun e => k1 (e ▸ hx)
      have : x ∈ u ++ a :: v := by
        simp only [List.mem_append, List.mem_cons] at hx ⊢
        rcases hx with h | h
        · exact .inl h
        · exact .inr (.inr h)
      rcases List.mem_cons.1 ((h x).2 this) with h | h
      · exact absurd h hne
      · exact h

/-- The keys under s, in order. -/
def undK (M : List (Key × Nd)) (s : ByteArray) : List Key := (M.filter fun x => und x.2.path s).map (·.1)

theorem undK_sorted {M : List (Key × Nd)} (hM : MOk M) (s : ByteArray) : (undK M s).Pairwise fun a b => bytesBefore a b = true := by
  unfold undK
  rw [List.pairwise_map, List.pairwise_filter]
  exact List.Pairwise.imp (fun h _ _ => h) hM.sorted

theorem Bfs.sorted {M : List (Key × Nd)} (hM : MOk M) (hc : Clo M) {s : ByteArray} {l : List ByteArray} {left : Key → Bool} (h : Bfs M s l l.length left) :
    (l.map fun p => p.data.toList).mergeSort (fun x y => decide (x ≤ y)) = undK M s := by
  refine sortedKeys (undK_sorted hM s) (perm_nodup _ _ ?_ ?_ fun k => ?_)
  · unfold List.Nodup
    rw [List.pairwise_map]
    exact List.Pairwise.imp (fun h e => h (ba_ext e)) h.nodup
  · refine List.Pairwise.imp (fun {a b} hab e => ?_) (undK_sorted hM s)
    rw [e] at hab
    exact before_asymm hab hab
  · unfold undK
    simp only [List.mem_map, List.mem_filter]
    constructor
    · rintro ⟨p, hp, rfl⟩
      obtain ⟨x, hx, e, hu⟩ := (h.all hM hc p).1 hp
      exact ⟨x, ⟨hx, by rw [e]; exact hu⟩, by rw [hM.key x hx]; unfold keyN; rw [e]⟩
    · rintro ⟨x, ⟨hx, hu⟩, rfl⟩
      exact ⟨x.2.path, (h.all hM hc _).2 ⟨x, hx, rfl, hu⟩, (hM.key x hx).symm⟩
end Go.Proofs.YthinpbdbhijbgaaGreatDoor
namespace Go.Proofs.YthinpbdbhijbgaaGreatDoor
open Go.RowKit
set_option maxHeartbeats 1000000
set_option maxRecDepth 100000

end Go.Proofs.YthinpbdbhijbgaaGreatDoor
namespace Go.Proofs.YthinpbdbhijbgaaGreatDoor
open Go.RowKit
set_option maxHeartbeats 1000000

end Go.Proofs.YthinpbdbhijbgaaGreatDoor
namespace Go.Proofs.YthinpbdbhijbgaaGreatDoor
open Go.RowKit Go.Sort
set_option maxHeartbeats 2000000
set_option maxRecDepth 100000

/-- A range over a map that may be nil: which names are left. -/
def RngAt (W : World) (r : Nat) (mb : Option Nat) (L : List (Key × Value)) (left : Key → Bool) : Prop :=
  match mb with
  | some b => ∃ (lf : Lit → Bool) (cnt : Nat), (∀ k, lf (.string k) = left k) ∧ W.ranges Tryz.prog 9 Rv b r L.length (kvD L) lf cnt
  | none => L = [] ∧ (∀ k, left k = false) ∧ W.heap[r]? = some (.mapIter none 0 #[] 0)
def rngLeft (mb : Option Nat) (r : Nat) (W : World) : Nat := match mb with | some b => W.rangeLeft b r | none => 0

theorem RngAt.iter {W : World} {r : Nat} {mb : Option Nat} {L : List (Key × Value)} {left : Key → Bool} (h : RngAt W r mb L left) : ∃ m s c d, W.heap[r]? = some (.mapIter m s c d) := by
  cases mb with
  | some b =>
    obtain ⟨lf, cnt, _, es, clock, since, seen, c0, _, _, _, _, hr, _⟩ := h
    exact ⟨_, _, _, _, hr⟩
  | none => exact ⟨_, _, _, _, h.2.2⟩
theorem RngAt.kept {W W' : World} {r : Nat} {mb : Option Nat} {L : List (Key × Value)} {left : Key → Bool} {row : Option Nat} (h : RngAt W r mb L left) (hg : W.grownBy W' row) (hb : ∀ b, mb = some b → some b ≠ row) (hr : some r ≠ row) : RngAt W' r mb L left ∧ rngLeft mb r W' = rngLeft mb r W := by
  cases mb with
  | some b =>
    obtain ⟨lf, cnt, h1, h2⟩ := h
    have h3 := h2.kept hg (hb b rfl) hr
    exact ⟨⟨lf, cnt, h1, h3⟩, by show W'.rangeLeft b r = W.rangeLeft b r; rw [h3.left_eq, h2.left_eq]⟩
  | none =>
    obtain ⟨h1, h2, h3⟩ := h
    exact ⟨⟨h1, h2, (hg.block r (Array.getElem?_eq_some_iff.1 h3).1 hr).trans h3⟩, rfl⟩

section
variable {ops : Array Oper} {rest : List Oper} {o : Oper} {a : Act} {Q : Exit → Act → World → Prop}
end

/-- What the region that ranges leaves. -/
def UnG (Wr : World) (mb : Option Nat) (L : List (Key × Value)) (d : Nat → Bool) (W : World) : Prop :=
  if d 9 = true then RngAt W Wr.heap.size mb L (fun k => (mget L k).isSome) ∧ Wr.grownBy W none ∧ W.heap.size = Wr.heap.size + 1 else Ext Wr W ∧ W.heap.size = Wr.heap.size
theorem UnG.same {Wr : World} {mb : Option Nat} {L : List (Key × Value)} {i : Nat} (hi : i ≠ 9) (d d' : Nat → Bool) (w : World) (h : UnG Wr mb L d w) (hd : ∀ k, k ≠ i → d' k = d k) : UnG Wr mb L d' w := by
  unfold UnG at h ⊢
  rw [hd 9 (Ne.symm hi)]
  exact h

theorem Bfs.enter {M : List (Key × Nd)} {s : ByteArray} {l : List ByteArray} {i : Nat} {p : ByteArray} (h : Bfs M s l i (fun _ => true)) (hp : l[i]? = some p) : Bfs M s l i (fun k => (mget (kidsOf M p) k).isSome) := by
  refine ⟨h.head, h.nodup, h.mem, h.done, fun q hq x hx hc hl => ?_, fun q hq => ?_⟩
  · exfalso
    have e : p = q := Option.some.inj (hp.symm.trans hq)
    subst e
    have hm : (nameK x.2, Value.agg #[]) ∈ kidsOf M p := mem_kids.2 ⟨x, hx, hc, rfl⟩
    cases hg : mget (kidsOf M p) (nameK x.2) with
    | none => exact mget_none hg _ hm rfl
    | some v => rw [hg] at hl; cases hl
  · rcases h.back q hq with e | ⟨j, r, h1, h2, h3, h4⟩
    · exact .inl e
    · refine .inr ⟨j, r, h1, h2, h3, .inl ?_⟩
      rcases h4 with h4 | ⟨_, h4⟩
      · exact h4
      · cases h4

end Go.Proofs.YthinpbdbhijbgaaGreatDoor
namespace Go.Proofs.YthinpbdbhijbgaaGreatDoor
open Go.RowKit
set_option maxHeartbeats 400000
set_option maxRecDepth 100000

theorem rkind_any (r : Int) (w : World) : Calls Tryz.prog 271 #[.int .i64 r] w fun e w' => e = .returned (.int .i64 (kindN r)) ∧ w = w' := by
  go_enter Tryz.func271, Tryz.ntmps271
  go_wp2
  all_goals (try go_ret)
  all_goals (refine ⟨ret_int ?_, rfl⟩; go_light; (try simp only [beq_iff_eq, beq_eq_false_iff_ne, ne_eq] at *); unfold kindN; repeat' split)
  all_goals (first | rfl | (exfalso; omega))

def kindR (r : Int) : Int := if r < 0 then 8 else kindN r
theorem kindR_pl (r : Int) : kindR r = 1 ↔ (0 ≤ r ∧ pl r.toNat = true) := by
  unfold kindR
  split
  · constructor <;> intro h <;> omega
  · have := kindN_pl r.toNat
    rw [show ((r.toNat : Nat) : Int) = r from by omega] at this
    rw [this]
    constructor
    · intro h; exact ⟨by omega, h⟩
    · exact fun h => h.2

theorem rof_any (r : Int) (w : World) : Calls Tryz.prog 241 #[.int .i64 r] w fun e w' => e = .returned (.int .i64 (kindR r)) ∧ w = w' := by
  by_cases h : r < 0
  · have e := Lib.hid (show kindR r = 8 by unfold kindR; rw [if_pos h])
    go_enter Tryz.func241, Tryz.ntmps241
    go_wp2
    go_ret
    exact ⟨ret_int e.out.symm, rfl⟩
  · have e := Lib.hid (show kindR r = kindN r by unfold kindR; rw [if_neg h])
    have h' : 0 ≤ r := by omega
    go_enter Tryz.func241, Tryz.ntmps241
    go_wp2_with (go_at_call 271; refine (rkind_any _ _).mono ?_; rintro e w' ⟨rfl, rfl⟩)
    go_ret
    exact ⟨ret_int e.out.symm, rfl⟩

set_option maxHeartbeats 1000000 in
theorem char_2 (s : ByteArray) (p : Nat) (w : World) (hp : p < s.size) (hs : s.size ≤ 9223372036854775800) (a : 192 ≤ (s[p].toNat : Int)) (b : (s[p].toNat : Int) < 224)
    (HB : Hid (∀ k, 1 ≤ k → k < 2 → ¬ contOk s (p + k) → Utf8.decode s p = (65533, 1)))
    (HF : Hid ((∀ j, 1 ≤ j → j < 2 → contOk s (p + j)) → (badRune (acc s p (s[p].toNat - 192) (2 - 1)) 128 → Utf8.decode s p = (65533, 1)) ∧ (¬ badRune (acc s p (s[p].toNat - 192) (2 - 1)) 128 → Utf8.decode s p = ((acc s p (s[p].toNat - 192) (2 - 1)).toNat, 2))))
    (HA : Hid (∀ k, k ≤ 3 → (∀ j, 1 ≤ j → j ≤ k → contOk s (p + j)) → 0 ≤ acc s p (s[p].toNat - 192) k ∧ acc s p (s[p].toNat - 192) k ≤ 8388608)) :
    Calls Tryz.prog 240 #[.string s, .int .i64 p] w fun e w' => ∃ r n : Int, e = .returned (.tuple #[.int .i64 r, .int .i64 n]) ∧ Hid (HandR s p r n) ∧ w = w' := by
  go_enter Tryz.func240, Tryz.ntmps240
  go_wp2
  go_loop [8, 10] (fun r i => ∃ k : Nat, 1 ≤ k ∧ k ≤ 2 ∧ i = .int .i64 k ∧ r = .int .i64 (acc s p (s[p].toNat - 192) (k - 1)) ∧ Hid (∀ j, 1 ≤ j → j < k → contOk s (p + j))) (fun _ i => 2 - (intOf i).toNat)
  case atStart => exact ⟨1, by omega, by omega, rfl, rfl, fun j h1 h2 => by omega⟩
  case round =>
    obtain ⟨k, hk1, hk2, rfl, rfl, HC⟩ := hrel
    have hbd := HA.out (k - 1) (by omega) (fun j h1 h2 => HC.out j h1 (by omega))
    have hb0 := hbd.1
    have hb1 := hbd.2
    clear hbd
    by_cases hlt : k < 2
    · by_cases hc : contOk s (p + k)
      · have c1 := hc.1
        have c2 := hc.2.1
        have c3 := hc.2.2
        have e2 := bat_get s (p + k) c1
        have HN : Hid (∀ j, 1 ≤ j → j < k + 1 → contOk s (p + j)) := fun j h1 h2 => by
          by_cases e : j = k
          · rw [e]; exact hc
          · exact HC.out j h1 (by omega)
        have HE : Hid (acc s p (s[p].toNat - 192) (k + 1 - 1) = 64 * acc s p (s[p].toNat - 192) (k - 1) + s[p + k].toNat - 128) := by
          obtain ⟨k, rfl⟩ : Exists fun m => k = m + 1 := ⟨k - 1, by omega⟩
          show acc _ _ _ (k + 1) = _
          simp only [acc, Nat.add_sub_cancel]
          rw [e2]
        rw [e2] at c2 c3
        clear e2 hc
        generalize acc s p (s[p].toNat - 192) (k - 1) = ac at *
        go_wp2
        go_round
        case rel => exact ⟨k + 1, by omega, by omega, by go_num, by rw [HE.out], HN⟩
        case measure => simp [intOf]; omega
      · have H := Lib.hid (handR_bad s p (HB.out k hk1 hlt hc))
        generalize acc s p (s[p].toNat - 192) (k - 1) = ac at *
        by_cases c1 : p + k < s.size
        · have e2 := bat_get s (p + k) c1
          have c2 : (s[p + k].toNat : Int) < 128 ∨ (128 ≤ (s[p + k].toNat : Int) ∧ 192 ≤ (s[p + k].toNat : Int)) := by
            unfold contOk at hc; rw [e2] at hc; omega
          clear e2 hc
          rcases c2 with c2 | ⟨c2, c3⟩
          all_goals
            go_wp2
            go_ret2
            exact ⟨-1, 1, rfl, H, rfl⟩
        · clear hc
          go_wp2
          go_ret2
          exact ⟨-1, 1, rfl, H, rfl⟩
    · obtain rfl : k = 2 := by omega
      have hf := HF.out HC.out
      have hf1 := Lib.hid hf.1
      have hf2 := Lib.hid hf.2
      clear hf
      generalize acc s p (s[p].toNat - 192) (2 - 1) = ac at *
      by_cases hbr : badRune ac 128
      · have H := Lib.hid (handR_bad s p (hf1.out hbr))
        clear hf1 hf2
        unfold badRune at hbr
        have hbr2 : ac < 128 ∨ (128 ≤ ac ∧ 1114111 < ac) ∨ (128 ≤ ac ∧ ac ≤ 1114111 ∧ 55296 ≤ ac ∧ ac ≤ 57343) := by omega
        clear hbr
        rcases hbr2 with h1 | ⟨h1, h2⟩ | ⟨h1, h2, h3, h4⟩
        all_goals
          go_wp2
          go_ret2
          exact ⟨-1, 1, rfl, H, rfl⟩
      · have H := Lib.hid (handR_good s p ac 2 hb0 (hf2.out hbr))
        clear hf1 hf2
        unfold badRune at hbr
        have hbr2 : 128 ≤ ac ∧ ac ≤ 1114111 ∧ (ac < 55296 ∨ (55296 ≤ ac ∧ 57343 < ac)) := by omega
        clear hbr
        obtain ⟨h1, h2, h3⟩ := hbr2
        rcases h3 with h3 | ⟨h3, h4⟩
        all_goals (first | (exfalso; omega) | (go_wp2; go_ret2; exact ⟨ac, 2, rfl, H, rfl⟩))

set_option maxHeartbeats 1000000 in
theorem char_3 (s : ByteArray) (p : Nat) (w : World) (hp : p < s.size) (hs : s.size ≤ 9223372036854775800) (a : 224 ≤ (s[p].toNat : Int)) (b : (s[p].toNat : Int) < 240)
    (HB : Hid (∀ k, 1 ≤ k → k < 3 → ¬ contOk s (p + k) → Utf8.decode s p = (65533, 1)))
    (HF : Hid ((∀ j, 1 ≤ j → j < 3 → contOk s (p + j)) → (badRune (acc s p (s[p].toNat - 224) (3 - 1)) 2048 → Utf8.decode s p = (65533, 1)) ∧ (¬ badRune (acc s p (s[p].toNat - 224) (3 - 1)) 2048 → Utf8.decode s p = ((acc s p (s[p].toNat - 224) (3 - 1)).toNat, 3))))
    (HA : Hid (∀ k, k ≤ 3 → (∀ j, 1 ≤ j → j ≤ k → contOk s (p + j)) → 0 ≤ acc s p (s[p].toNat - 224) k ∧ acc s p (s[p].toNat - 224) k ≤ 8388608)) :
    Calls Tryz.prog 240 #[.string s, .int .i64 p] w fun e w' => ∃ r n : Int, e = .returned (.tuple #[.int .i64 r, .int .i64 n]) ∧ Hid (HandR s p r n) ∧ w = w' := by
  go_enter Tryz.func240, Tryz.ntmps240
  go_wp2
  go_loop [8, 10] (fun r i => ∃ k : Nat, 1 ≤ k ∧ k ≤ 3 ∧ i = .int .i64 k ∧ r = .int .i64 (acc s p (s[p].toNat - 224) (k - 1)) ∧ Hid (∀ j, 1 ≤ j → j < k → contOk s (p + j))) (fun _ i => 3 - (intOf i).toNat)
  case atStart => exact ⟨1, by omega, by omega, rfl, rfl, fun j h1 h2 => by omega⟩
  case round =>
    obtain ⟨k, hk1, hk2, rfl, rfl, HC⟩ := hrel
    have hbd := HA.out (k - 1) (by omega) (fun j h1 h2 => HC.out j h1 (by omega))
    have hb0 := hbd.1
    have hb1 := hbd.2
    clear hbd
    by_cases hlt : k < 3
    · by_cases hc : contOk s (p + k)
      · have c1 := hc.1
        have c2 := hc.2.1
        have c3 := hc.2.2
        have e2 := bat_get s (p + k) c1
        have HN : Hid (∀ j, 1 ≤ j → j < k + 1 → contOk s (p + j)) := fun j h1 h2 => by
          by_cases e : j = k
          · rw [e]; exact hc
          · exact HC.out j h1 (by omega)
        have HE : Hid (acc s p (s[p].toNat - 224) (k + 1 - 1) = 64 * acc s p (s[p].toNat - 224) (k - 1) + s[p + k].toNat - 128) := by
          obtain ⟨k, rfl⟩ : Exists fun m => k = m + 1 := ⟨k - 1, by omega⟩
          show acc _ _ _ (k + 1) = _
          simp only [acc, Nat.add_sub_cancel]
          rw [e2]
        rw [e2] at c2 c3
        clear e2 hc
        generalize acc s p (s[p].toNat - 224) (k - 1) = ac at *
        go_wp2
        go_round
        case rel => exact ⟨k + 1, by omega, by omega, by go_num, by rw [HE.out], HN⟩
        case measure => simp [intOf]; omega
      · have H := Lib.hid (handR_bad s p (HB.out k hk1 hlt hc))
        generalize acc s p (s[p].toNat - 224) (k - 1) = ac at *
        by_cases c1 : p + k < s.size
        · have e2 := bat_get s (p + k) c1
          have c2 : (s[p + k].toNat : Int) < 128 ∨ (128 ≤ (s[p + k].toNat : Int) ∧ 192 ≤ (s[p + k].toNat : Int)) := by
            unfold contOk at hc; rw [e2] at hc; omega
          clear e2 hc
          rcases c2 with c2 | ⟨c2, c3⟩
          all_goals
            go_wp2
            go_ret2
            exact ⟨-1, 1, rfl, H, rfl⟩
        · clear hc
          go_wp2
          go_ret2
          exact ⟨-1, 1, rfl, H, rfl⟩
    · obtain rfl : k = 3 := by omega
      have hf := HF.out HC.out
      have hf1 := Lib.hid hf.1
      have hf2 := Lib.hid hf.2
      clear hf
      generalize acc s p (s[p].toNat - 224) (3 - 1) = ac at *
      by_cases hbr : badRune ac 2048
      · have H := Lib.hid (handR_bad s p (hf1.out hbr))
        clear hf1 hf2
        unfold badRune at hbr
        have hbr2 : ac < 2048 ∨ (2048 ≤ ac ∧ 1114111 < ac) ∨ (2048 ≤ ac ∧ ac ≤ 1114111 ∧ 55296 ≤ ac ∧ ac ≤ 57343) := by omega
        clear hbr
        rcases hbr2 with h1 | ⟨h1, h2⟩ | ⟨h1, h2, h3, h4⟩
        all_goals
          go_wp2
          go_ret2
          exact ⟨-1, 1, rfl, H, rfl⟩
      · have H := Lib.hid (handR_good s p ac 3 hb0 (hf2.out hbr))
        clear hf1 hf2
        unfold badRune at hbr
        have hbr2 : 2048 ≤ ac ∧ ac ≤ 1114111 ∧ (ac < 55296 ∨ (55296 ≤ ac ∧ 57343 < ac)) := by omega
        clear hbr
        obtain ⟨h1, h2, h3⟩ := hbr2
        rcases h3 with h3 | ⟨h3, h4⟩
        all_goals (first | (exfalso; omega) | (go_wp2; go_ret2; exact ⟨ac, 3, rfl, H, rfl⟩))

set_option maxHeartbeats 1000000 in
theorem char_4 (s : ByteArray) (p : Nat) (w : World) (hp : p < s.size) (hs : s.size ≤ 9223372036854775800) (a : 240 ≤ (s[p].toNat : Int)) (b : (s[p].toNat : Int) < 248)
    (HB : Hid (∀ k, 1 ≤ k → k < 4 → ¬ contOk s (p + k) → Utf8.decode s p = (65533, 1)))
    (HF : Hid ((∀ j, 1 ≤ j → j < 4 → contOk s (p + j)) → (badRune (acc s p (s[p].toNat - 240) (4 - 1)) 65536 → Utf8.decode s p = (65533, 1)) ∧ (¬ badRune (acc s p (s[p].toNat - 240) (4 - 1)) 65536 → Utf8.decode s p = ((acc s p (s[p].toNat - 240) (4 - 1)).toNat, 4))))
    (HA : Hid (∀ k, k ≤ 3 → (∀ j, 1 ≤ j → j ≤ k → contOk s (p + j)) → 0 ≤ acc s p (s[p].toNat - 240) k ∧ acc s p (s[p].toNat - 240) k ≤ 8388608)) :
    Calls Tryz.prog 240 #[.string s, .int .i64 p] w fun e w' => ∃ r n : Int, e = .returned (.tuple #[.int .i64 r, .int .i64 n]) ∧ Hid (HandR s p r n) ∧ w = w' := by
  go_enter Tryz.func240, Tryz.ntmps240
  go_wp2
  go_loop [8, 10] (fun r i => ∃ k : Nat, 1 ≤ k ∧ k ≤ 4 ∧ i = .int .i64 k ∧ r = .int .i64 (acc s p (s[p].toNat - 240) (k - 1)) ∧ Hid (∀ j, 1 ≤ j → j < k → contOk s (p + j))) (fun _ i => 4 - (intOf i).toNat)
  case atStart => exact ⟨1, by omega, by omega, rfl, rfl, fun j h1 h2 => by omega⟩
  case round =>
    obtain ⟨k, hk1, hk2, rfl, rfl, HC⟩ := hrel
    have hbd := HA.out (k - 1) (by omega) (fun j h1 h2 => HC.out j h1 (by omega))
    have hb0 := hbd.1
    have hb1 := hbd.2
    clear hbd
    by_cases hlt : k < 4
    · by_cases hc : contOk s (p + k)
      · have c1 := hc.1
        have c2 := hc.2.1
        have c3 := hc.2.2
        have e2 := bat_get s (p + k) c1
        have HN : Hid (∀ j, 1 ≤ j → j < k + 1 → contOk s (p + j)) := fun j h1 h2 => by
          by_cases e : j = k
          · rw [e]; exact hc
          · exact HC.out j h1 (by omega)
        have HE : Hid (acc s p (s[p].toNat - 240) (k + 1 - 1) = 64 * acc s p (s[p].toNat - 240) (k - 1) + s[p + k].toNat - 128) := by
          obtain ⟨k, rfl⟩ : Exists fun m => k = m + 1 := ⟨k - 1, by omega⟩
          show acc _ _ _ (k + 1) = _
          simp only [acc, Nat.add_sub_cancel]
          rw [e2]
        rw [e2] at c2 c3
        clear e2 hc
        generalize acc s p (s[p].toNat - 240) (k - 1) = ac at *
        go_wp2
        go_round
        case rel => exact ⟨k + 1, by omega, by omega, by go_num, by rw [HE.out], HN⟩
        case measure => simp [intOf]; omega
      · have H := Lib.hid (handR_bad s p (HB.out k hk1 hlt hc))
        generalize acc s p (s[p].toNat - 240) (k - 1) = ac at *
        by_cases c1 : p + k < s.size
        · have e2 := bat_get s (p + k) c1
          have c2 : (s[p + k].toNat : Int) < 128 ∨ (128 ≤ (s[p + k].toNat : Int) ∧ 192 ≤ (s[p + k].toNat : Int)) := by
            unfold contOk at hc; rw [e2] at hc; omega
          clear e2 hc
          rcases c2 with c2 | ⟨c2, c3⟩
          all_goals
            go_wp2
            go_ret2
            exact ⟨-1, 1, rfl, H, rfl⟩
        · clear hc
          go_wp2
          go_ret2
          exact ⟨-1, 1, rfl, H, rfl⟩
    · obtain rfl : k = 4 := by omega
      have hf := HF.out HC.out
      have hf1 := Lib.hid hf.1
      have hf2 := Lib.hid hf.2
      clear hf
      generalize acc s p (s[p].toNat - 240) (4 - 1) = ac at *
      by_cases hbr : badRune ac 65536
      · have H := Lib.hid (handR_bad s p (hf1.out hbr))
        clear hf1 hf2
        unfold badRune at hbr
        have hbr2 : ac < 65536 ∨ (65536 ≤ ac ∧ 1114111 < ac) ∨ (65536 ≤ ac ∧ ac ≤ 1114111 ∧ 55296 ≤ ac ∧ ac ≤ 57343) := by omega
        clear hbr
        rcases hbr2 with h1 | ⟨h1, h2⟩ | ⟨h1, h2, h3, h4⟩
        all_goals
          go_wp2
          go_ret2
          exact ⟨-1, 1, rfl, H, rfl⟩
      · have H := Lib.hid (handR_good s p ac 4 hb0 (hf2.out hbr))
        clear hf1 hf2
        unfold badRune at hbr
        have hbr2 : 65536 ≤ ac ∧ ac ≤ 1114111 ∧ (ac < 55296 ∨ (55296 ≤ ac ∧ 57343 < ac)) := by omega
        clear hbr
        obtain ⟨h1, h2, h3⟩ := hbr2
        rcases h3 with h3 | ⟨h3, h4⟩
        all_goals (first | (exfalso; omega) | (go_wp2; go_ret2; exact ⟨ac, 4, rfl, H, rfl⟩))

theorem char_any (s : ByteArray) (p : Nat) (w : World) (hp : p < s.size) (hs : s.size ≤ 9223372036854775800) : Calls Tryz.prog 240 #[.string s, .int .i64 p] w fun e w' =>
    ∃ r n : Int, e = .returned (.tuple #[.int .i64 r, .int .i64 n]) ∧ Hid (HandR s p r n) ∧ w = w' := by
  have hb := bat_get s p hp
  have hb1 := bat_lt s p
  by_cases h1 : bat s p < 128
  · have H := Lib.hid (handR_good s p (bat s p) 1 (by omega) (by rw [(dec s p hp).ascii h1]; simp))
    rw [hb] at h1 H
    clear hb hb1
    go_enter Tryz.func240, Tryz.ntmps240
    go_wp2
    go_ret2
    exact ⟨_, 1, rfl, H, rfl⟩
  by_cases h2 : bat s p < 192 ∨ 248 ≤ bat s p
  · have H := Lib.hid (handR_bad s p (dec_lone s p (by omega) h2))
    rw [hb] at h1 h2 hb1
    clear hb
    go_enter Tryz.func240, Tryz.ntmps240
    rcases h2 with h2 | h2
    all_goals
      go_wp2
      go_ret2
      exact ⟨-1, 1, rfl, H, rfl⟩
  have key : ∀ (n : Nat) (off least : Int), Lead s p n off least → (∀ k, 1 ≤ k → k < n → ¬ contOk s (p + k) → Utf8.decode s p = (65533, 1)) ∧ _ ∧ _ := fun n off least hl =>
    ⟨dec_bad s p n off least hl, dec_full s p n off least hl, acc_le s p (bat s p - off) (by rcases hl with h | h | h <;> omega) (by rcases hl with h | h | h <;> omega)⟩
  rw [hb] at key h1 h2
  by_cases h3 : bat s p < 224
  · have k := key 2 192 128 (by unfold Lead; omega)
    rw [hb] at h3
    exact char_2 s p w hp hs (by omega) (by omega) k.1 k.2.1 k.2.2
  · by_cases h4 : bat s p < 240
    · have k := key 3 224 2048 (by unfold Lead; omega)
      rw [hb] at h3 h4
      exact char_3 s p w hp hs (by omega) (by omega) k.1 k.2.1 k.2.2
    · have k := key 4 240 65536 (by unfold Lead; omega)
      rw [hb] at h3 h4
      exact char_4 s p w hp hs (by omega) (by omega) k.1 k.2.1 k.2.2

end Go.Proofs.YthinpbdbhijbgaaGreatDoor
namespace Go.Proofs.YthinpbdbhijbgaaGreatDoor
open Go.RowKit
set_option maxHeartbeats 400000
set_option maxRecDepth 100000

theorem takeWhile_upto : ∀ (l : List UInt8) (q : Nat), q ≤ l.length → (∀ j, (h : j < l.length) → j < q → l[j] ≠ 47) → (q = l.length ∨ ∃ h : q < l.length, l[q] = 47) → l.takeWhile (· != 47) = l.take q
  | [], q, _, _, _ => by simp
  | b :: l, 0, _, _, h2 => by
    rcases h2 with h2 | ⟨_, h2⟩
    · simp at h2
    · simp at h2; subst h2; simp
  | b :: l, q + 1, hq, h1, h2 => by
    have hb : b ≠ 47 := h1 0 (by simp) (by omega)
    rw [List.takeWhile_cons_of_pos (by simpa using hb), List.take_succ_cons]
    congr 1
    refine takeWhile_upto l q (by simpa using hq) (fun j h hj => h1 (j + 1) (by simpa using h) (by omega)) ?_
    rcases h2 with h2 | ⟨h, h2⟩
    · left; simpa using h2
    · right; exact ⟨by simpa using h, by simpa using h2⟩

theorem bat_list (s : ByteArray) (i : Nat) (h : i < s.size) : s.data.toList[i]'(by simpa using h) = 47 ↔ bat s i = 47 := by
  rw [bat_get s i h]
  constructor
  · intro e; rw [show s[i] = s.data.toList[i]'(by simpa using h) from rfl, e]; rfl
  · intro e; exact UInt8.toNat_inj.1 (e.trans rfl)

theorem partL_upto (s : ByteArray) (p q : Nat) (hp : p ≤ q) (hq : q ≤ s.size) (h1 : ∀ j, p ≤ j → j < q → bat s j ≠ 47) (h2 : q = s.size ∨ bat s q = 47) : (s.extract p q).toList = partL s p := by
  have e : (s.extract p q).toList = (s.data.toList.drop p).take (q - p) := by
    rw [ByteArray.toList_eq, Lib.extract_data]
  rw [e, partL, takeWhile_upto (s.data.toList.drop p) (q - p) (by simp; omega)]
  · intro j h hj
    simp only [List.getElem_drop]
    intro e
    have hl : p + j < s.size := by simp at h; omega
    exact h1 (p + j) (by omega) (by omega) ((bat_list s (p + j) hl).1 e)
  · by_cases hqs : q = s.size
    · left; simp; omega
    · right
      have hl : q < s.size := by omega
      refine ⟨by simp; omega, ?_⟩
      simp only [List.getElem_drop]
      have := (bat_list s q hl).2 (h2.resolve_left hqs)
      simpa [show p + (q - p) = q from by omega] using this

theorem part_any (s : ByteArray) (p : Nat) (w : World) (hp : p ≤ s.size) (hs : s.size ≤ 9223372036854775800) : Calls Tryz.prog 239 #[.string s, .int .i64 p] w fun e w' =>
    ∃ t : ByteArray, e = .returned (.string t) ∧ Hid (t.toList = partL s p) ∧ w = w' := by
  go_enter Tryz.func239, Tryz.ntmps239
  go_wp2
  go_loop [5] (fun i => ∃ q : Nat, p ≤ q ∧ q ≤ s.size ∧ i = .int .i64 q ∧ Hid (∀ j, p ≤ j → j < q → bat s j ≠ 47)) (fun i => s.size - (intOf i).toNat)
  case atStart => exact ⟨p, Nat.le_refl _, hp, rfl, fun j h1 h2 => by omega⟩
  case round =>
    obtain ⟨q, hq1, hq2, rfl, HQ⟩ := hrel
    by_cases hlt : q < s.size
    · have e2 := bat_get s q hlt
      by_cases h47 : bat s q = 47
      · have H := Lib.hid (partL_upto s p q hq1 hq2 HQ.out (.inr h47))
        rw [e2] at h47
        have h47' : ((s[q].toNat : Int) != 47) = false := by simp; omega
        clear e2 h47
        go_wp2
        go_ret
        exact ⟨_, rfl, H, rfl⟩
      · have HN : Hid (∀ j, p ≤ j → j < q + 1 → bat s j ≠ 47) := fun j h1 h2 => by
          by_cases e : j = q
          · rw [e]; exact h47
          · exact HQ.out j h1 (by omega)
        rw [e2] at h47
        have h47' : ((s[q].toNat : Int) != 47) = true := by simp; omega
        clear e2 h47
        go_wp2
        go_round
        case rel => exact ⟨q + 1, by omega, by omega, by go_num, HN⟩
        case measure => simp [intOf]; omega
    · obtain rfl : q = s.size := by omega
      have H := Lib.hid (partL_upto s p s.size hq1 hq2 HQ.out (.inl rfl))
      go_wp2
      go_ret
      exact ⟨_, rfl, H, rfl⟩

theorem part_at (s : ByteArray) (p : Nat) (a : Int) (w : World) (ha : a = (p : Int)) (hp : p ≤ s.size) (hs : s.size ≤ 9223372036854775800) : Calls Tryz.prog 239 #[.string s, .int .i64 a] w fun e w' =>
    ∃ t : ByteArray, e = .returned (.string t) ∧ Hid (t.toList = partL s p) ∧ w = w' := by subst ha; exact part_any s p w hp hs

theorem scan_pl (s : ByteArray) (p : Nat) (h : p < s.size) (hp : ¬ pl (Utf8.decode s p).1 = true) : scanAt s p = false := by
  rw [scanAt_step s p h]; simp [hp]
theorem scan_void (s : ByteArray) (p : Nat) (h : p < s.size) (h47 : bat s p = 47) (h0 : 0 < p) (h1 : bat s (p - 1) = 47) : scanAt s p = false := by
  rw [scanAt_step s p h, sep_slash s p h47]; simp [h0, h1]
theorem scan_dots (s : ByteArray) (p : Nat) (h : p < s.size) (h47 : bat s p = 47) (h1 : dots s (p + 1) = true) : scanAt s p = false := by
  rw [scanAt_step s p h, sep_slash s p h47]; simp [h1]
theorem scan_plain (s : ByteArray) (p : Nat) (h : p < s.size) (h47 : bat s p ≠ 47) (hp : pl (Utf8.decode s p).1 = true) : scanAt s p = scanAt s (p + (Utf8.decode s p).2) := by
  rw [scanAt_step s p h, sep_ok s p h47]; simp [hp]
theorem scan_slash (s : ByteArray) (p : Nat) (h : p < s.size) (h47 : bat s p = 47) (h1 : ¬ (0 < p ∧ bat s (p - 1) = 47)) (h2 : dots s (p + 1) = false) : scanAt s p = scanAt s (p + (Utf8.decode s p).2) := by
  have hd := dec_one s p h47 (dec s p h).ascii
  rw [scanAt_step s p h, sep_slash s p h47, hd]
  have : (decide (0 < p) && bat s (p - 1) == 47) = false := by
    rw [Bool.and_eq_false_iff]
    by_cases hz : 0 < p
    · right; simp; exact fun e => h1 ⟨hz, e⟩
    · left; simpa using hz
  rw [this, h2]; simp [pl]

/-- What checking a text may answer: no fault just if it is a path. -/
def ChkOut (s : ByteArray) (w : World) (e : Ending) (w' : World) : Prop :=
  ∃ f a : Int, e = .returned (.tuple #[.int .i64 f, .int .i64 a]) ∧ Hid (f = 0 ↔ vpath s = true) ∧ Below w.heap.size w w'

set_option maxHeartbeats 1000000 in
theorem rcheck_any (s : ByteArray) (w : World) (hs : s.size ≤ 9223372036854775800) : Calls Tryz.prog 192 #[.string s] w (ChkOut s w) := by
  have he := isEmpty_size s
  by_cases h0 : s.size = 0
  · have hv := Lib.hid (vpath_empty s h0)
    have he' : s.toList.isEmpty = true := by rw [he]; simp [h0]
    clear he h0
    go_enter Tryz.func192, Tryz.ntmps192
    go_wp2
    go_ret2
    exact ⟨1, 0, rfl, by unfold Hid; rw [hv.out]; simp, Below.refl _ _⟩
  have he' : s.toList.isEmpty = false := by rw [he]; simp [h0]
  have hp : 0 < s.size := by omega
  clear he
  by_cases h1 : 4096 < s.size
  · have hv := Lib.hid (vpath_big s h1)
    go_enter Tryz.func192, Tryz.ntmps192
    go_wp2
    go_ret2
    exact ⟨2, 4096, rfl, by unfold Hid; rw [hv.out]; simp, Below.refl _ _⟩
  by_cases h2 : bat s 0 ≠ 47
  · have hv := Lib.hid (vpath_start s h2)
    have h2' : ((s[0].toNat : Int) != 47) = true := by rw [← bat_get s 0 hp]; simp; omega
    go_enter Tryz.func192, Tryz.ntmps192
    go_wp2
    go_ret2
    exact ⟨3, 0, rfl, by unfold Hid; rw [hv.out]; simp, Below.refl _ _⟩
  have h2 : bat s 0 = 47 := by omega
  have h2' : ((s[0].toNat : Int) != 47) = false := by rw [← bat_get s 0 hp]; simp; omega
  have hr := root_size s hp h2
  by_cases h3 : s.size = 1
  · have hv := Lib.hid (vpath_root s h3 h2)
    have hr' : (s.toList == [47]) = true := by rw [hr]; simp [h3]
    clear hr h3 h2
    go_enter Tryz.func192, Tryz.ntmps192
    go_wp2
    go_ret2
    exact ⟨0, -1, rfl, by unfold Hid; rw [hv.out]; simp, Below.refl _ _⟩
  have hr' : (s.toList == [47]) = false := by rw [hr]; simp [h3]
  clear hr
  have hb1 : 1 ≤ (s.size : Int) ∧ (s.size : Int) - 1 < s.size := by omega
  by_cases h4 : bat s (s.size - 1) = 47
  · have hv := Lib.hid (vpath_end s h3 h4)
    have h4' : ((s[s.size - 1].toNat : Int) == 47) = true := by rw [← bat_get s (s.size - 1) (by omega)]; simp; omega
    clear h4 h2
    go_enter Tryz.func192, Tryz.ntmps192
    go_wp2
    go_ret2
    exact ⟨4, _, rfl, by unfold Hid; rw [hv.out]; simp, Below.refl _ _⟩
  have h4' : ((s[s.size - 1].toNat : Int) == 47) = false := by rw [← bat_get s (s.size - 1) (by omega)]; simp; omega
  have hv := Lib.hid (vpath_scan s h3 h0 (by omega) h2 h4)
  clear h4 h2
  go_enter Tryz.func192, Tryz.ntmps192
  go_wp2
  clear h4' hr' he' h2'
  go_loop [4] (fun i => ∃ pos : Nat, i = .int .i64 pos ∧ pos ≤ s.size ∧ Hid (scanAt s 0 = scanAt s pos)) (fun i => s.size - (intOf i).toNat)
  case atStart => exact ⟨0, rfl, Nat.zero_le _, rfl⟩
  case round =>
    obtain ⟨pos, rfl, hpos, Hs⟩ := hrel
    by_cases hlt : pos < s.size
    · have d := dec s pos hlt
      have hd1 := d.pos
      have hd2 := d.fits
      clear d
      have hbg := bat_get s pos hlt
      have HC : ∀ w, Calls Tryz.prog 240 #[.string s, .int .i64 pos] w fun e w' => ∃ r n : Int, e = .returned (.tuple #[.int .i64 r, .int .i64 n]) ∧ Hid (HandR s pos r n) ∧ w = w' := fun w => char_any s pos w hlt (by omega)
      by_cases h47 : bat s pos = 47
      · have h47' : ((s[pos].toNat : Int) == 47) = true := by rw [← hbg]; simp; omega
        by_cases hv2 : 0 < pos ∧ bat s (pos - 1) = 47
        · have H1 := Lib.hid (Hs.out.trans (scan_void s pos hlt h47 hv2.1 hv2.2))
          obtain ⟨hz, hv3⟩ := hv2
          have e2 := bat_get s (pos - 1) (by omega)
          have hq : ((s[pos - 1].toNat : Int) == 47) = true := by rw [← e2]; simp; omega
          have hi : 1 ≤ (pos : Int) ∧ (pos : Int) - 1 < s.size := by omega
          clear hv3 e2 h47 hbg Hs
          go_wp2
          go_ret2
          exact ⟨5, _, rfl, by unfold Hid; rw [hv.out, H1.out]; simp, Below.refl _ _⟩
        · have hbz : ¬ (0 < pos) ∨ (∃ _ : 0 < pos, ((s[pos - 1].toNat : Int) == 47) = false) := by
            by_cases hz : 0 < pos
            · right; refine ⟨hz, ?_⟩
              have e2 := bat_get s (pos - 1) (by omega)
              rw [← e2]; simp; intro e; exact hv2 ⟨hz, by omega⟩
            · exact .inl hz
          by_cases hdt : dots s (pos + 1) = true
          · have H1 := Lib.hid (Hs.out.trans (scan_dots s pos hlt h47 hdt))
            have HD := Lib.hid hdt
            clear hdt hv2 h47 hbg Hs
            rcases hbz with hbz | ⟨hz, hbz⟩
            all_goals
              go_wp2_with fail
              refine (part_at s (pos + 1) _ _ (by omega) (by omega) (by omega)).mono ?_
              rintro e w' ⟨t, rfl, HT, rfl⟩
              have hd : t.toList = [46] ∨ (¬ t.toList = [46] ∧ (t.toList == [46]) = false ∧ (t.toList == [46, 46]) = true) := by
                have h := HD.out
                unfold dots at h
                rw [← HT.out] at h
                by_cases e : t.toList = [46]
                · exact .inl e
                · right; simp [e] at h; simp [h]
              rcases hd with hd | ⟨hd, hd1, hd2⟩
              all_goals
                go_wp2
                go_ret2
                exact ⟨6, _, rfl, by unfold Hid; rw [hv.out, H1.out]; simp, Below.refl _ _⟩
          · have hdt' : dots s (pos + 1) = false := by simpa using hdt
            have H1 := Lib.hid (Hs.out.trans (scan_slash s pos hlt h47 hv2 hdt'))
            have hda := dec_one s pos h47 (dec s pos hlt).ascii
            have hpl : pl (Utf8.decode s pos).1 = true := by rw [hda]; rfl
            have hk : (kindR (Utf8.decode s pos).1 != 1) = false := by simp; exact (kindR_pl _).2 ⟨by omega, by simpa using hpl⟩
            have HD := Lib.hid hdt'
            have HP := Lib.hid hpl
            clear hdt hdt' hv2 h47 hbg Hs hda hpl
            rcases hbz with hbz | ⟨hz, hbz⟩
            all_goals
              go_wp2_with fail
              refine (part_at s (pos + 1) _ _ (by omega) (by omega) (by omega)).mono ?_
              rintro e w' ⟨t, rfl, HT, rfl⟩
              have hd : ¬ t.toList = [46] ∧ (t.toList == [46]) = false ∧ (t.toList == [46, 46]) = false := by
                have h := HD.out
                unfold dots at h
                rw [← HT.out] at h
                simp at h
                simp [h]
              obtain ⟨h1, h2, h3⟩ := hd
              go_wp2_with fail
              refine (HC _).mono ?_
              rintro e w' ⟨r, n, rfl, HR, rfl⟩
              obtain ⟨rfl, rfl⟩ := HR.out.2 HP.out
              go_wp2_with (go_at_call 241; refine (rof_any _ _).mono ?_; rintro e w' ⟨rfl, rfl⟩)
              go_round
              case rel => exact ⟨_, by go_num, hd2, H1⟩
              case measure => simp [intOf]; omega
      · have h47' : ((s[pos].toNat : Int) == 47) = false := by rw [← hbg]; simp; omega
        by_cases hpl : pl (Utf8.decode s pos).1 = true
        · have H1 := Lib.hid (Hs.out.trans (scan_plain s pos hlt h47 hpl))
          have hk : (kindR (Utf8.decode s pos).1 != 1) = false := by simp; exact (kindR_pl _).2 ⟨by omega, by simpa using hpl⟩
          have HP := Lib.hid hpl
          clear h47 hbg Hs hpl
          go_wp2_with fail
          refine (HC _).mono ?_
          rintro e w' ⟨r, n, rfl, HR, rfl⟩
          obtain ⟨rfl, rfl⟩ := HR.out.2 HP.out
          go_wp2_with (go_at_call 241; refine (rof_any _ _).mono ?_; rintro e w' ⟨rfl, rfl⟩)
          go_round
          case rel => exact ⟨_, by go_num, hd2, H1⟩
          case measure => simp [intOf]; omega
        · have H1 := Lib.hid (Hs.out.trans (scan_pl s pos hlt hpl))
          have HP := Lib.hid hpl
          clear h47 hbg Hs hpl
          go_wp2_with fail
          refine (HC _).mono ?_
          rintro e w' ⟨r, n, rfl, HR, rfl⟩
          have hk : (kindR r != 1) = true := by
            simp; intro e; exact HP.out (HR.out.1.1 ((kindR_pl _).1 e))
          go_wp2_with (go_at_call 241; refine (rof_any _ _).mono ?_; rintro e w' ⟨rfl, rfl⟩)
          go_ret2
          exact ⟨7, _, rfl, by unfold Hid; rw [hv.out, H1.out]; simp, Below.refl _ _⟩
    · have H1 : Hid (scanAt s 0 = true) := by unfold Hid; rw [Hs.out]; exact scanAt_end s pos (by omega)
      clear Hs
      go_wp2
      go_ret2
      exact ⟨0, -1, rfl, by unfold Hid; rw [hv.out, H1.out]; simp, Below.refl _ _⟩

theorem rvalid_any (s : ByteArray) (w : World) (hs : s.size ≤ 9223372036854775800) : Calls Tryz.prog 146 #[.string s] w fun e w' =>
    e = .returned (.bool (vpath s)) ∧ Below w.heap.size w w' := by
  by_cases hv : vpath s = true
  · go_enter Tryz.func146, Tryz.ntmps146
    go_wp2_with fail
    refine (rcheck_any s w hs).mono ?_
    rintro e w' ⟨f, a, rfl, hf, hB⟩
    obtain rfl : f = 0 := hf.out.2 hv
    go_wp2
    go_ret
    exact ⟨by rw [hv]; rfl, hB⟩
  · go_enter Tryz.func146, Tryz.ntmps146
    go_wp2_with fail
    refine (rcheck_any s w hs).mono ?_
    rintro e w' ⟨f, a, rfl, hf, hB⟩
    have hf0 : (f == 0) = false := by simp; intro h; exact hv (hf.out.1 h)
    have hv' : vpath s = false := by simpa using hv
    clear hf hv
    go_wp2
    go_ret
    exact ⟨by rw [hv']; rfl, hB⟩
end Go.Proofs.YthinpbdbhijbgaaGreatDoor
namespace Go.Proofs.YthinpbdbhijbgaaGreatDoor
open Go.RowKit
set_option maxHeartbeats 2000000
set_option maxRecDepth 100000

theorem ordL_drop (a b : ByteArray) (q : Nat) (h : q < a.size) (h' : q < b.size) : ordL (a.data.toList.drop q) (b.data.toList.drop q) = if a[q].toNat < b[q].toNat then -1 else if b[q].toNat < a[q].toNat then 1 else ordL (a.data.toList.drop (q + 1)) (b.data.toList.drop (q + 1)) := by
  have e1 : a.data.toList.drop q = a[q] :: a.data.toList.drop (q + 1) := by
    rw [List.drop_eq_getElem_cons (by rw [size_list]; exact h)]; rfl
  have e2 : b.data.toList.drop q = b[q] :: b.data.toList.drop (q + 1) := by
    rw [List.drop_eq_getElem_cons (by rw [size_list]; exact h')]; rfl
  rw [e1, e2, ordL]
theorem ordL_end (a b : ByteArray) (q : Nat) (h1 : q ≤ a.size) (h2 : q ≤ b.size) (h : q = a.size ∨ q = b.size) : ordL (a.data.toList.drop q) (b.data.toList.drop q) = if a.size < b.size then -1 else if b.size < a.size then 1 else 0 := by
  have la := size_list a
  have lb := size_list b
  by_cases ha : q = a.size
  · have e1 : a.data.toList.drop q = [] := List.drop_eq_nil_of_le (by omega)
    rw [e1]
    by_cases hb : q = b.size
    · have e2 : b.data.toList.drop q = [] := List.drop_eq_nil_of_le (by omega)
      rw [e2, if_neg (by omega), if_neg (by omega)]; rfl
    · rw [if_pos (by omega)]
      cases hd : b.data.toList.drop q with
      | nil => have := congrArg List.length hd; rw [List.length_drop] at this; simp at this; omega
      | cons x l => rfl
  · have hb : q = b.size := h.resolve_left ha
    have e2 : b.data.toList.drop q = [] := List.drop_eq_nil_of_le (by omega)
    rw [e2, if_neg (by omega), if_pos (by omega)]
    cases hd : a.data.toList.drop q with
    | nil => have := congrArg List.length hd; rw [List.length_drop] at this; simp at this; omega
    | cons x l => rfl

theorem order_any (a b : ByteArray) (w : World) (ha : a.size ≤ 9223372036854775800) (hb : b.size ≤ 9223372036854775800) : Calls Tryz.prog 120 #[.string a, .string b] w fun e w' => e = .returned (.int .i64 (ordL a.data.toList b.data.toList)) ∧ Below w.heap.size w w' := by
  go_enter Tryz.func120, Tryz.ntmps120
  go_wp2
  go_loopw [5] (fun i wr => ∃ q n : Nat, q ≤ a.size ∧ q ≤ b.size ∧ i = .int .i64 q ∧ wr = w.drewN n ∧ Hid (ordL a.data.toList b.data.toList = ordL (a.data.toList.drop q) (b.data.toList.drop q))) (fun i _ => a.size - (intOf i).toNat)
  case atStart => exact ⟨0, 0, Nat.zero_le _, Nat.zero_le _, rfl, rfl, rfl⟩
  case round =>
    obtain ⟨q, n, hqa, hqb, rfl, rfl, HQ⟩ := hrel
    by_cases hl : q < a.size ∧ q < b.size
    · obtain ⟨hla, hlb⟩ := hl
      have hd := ordL_drop a b q hla hlb
      have c1 : (q : Int) < a.size := by omega
      have c2 : (q : Int) < b.size := by omega
      have c0 : (0 : Int) ≤ q := by omega
      by_cases h1 : a[q].toNat < b[q].toNat
      · have H1 : Hid (ordL a.data.toList b.data.toList = -1) := by unfold Hid; rw [HQ.out, hd, if_pos h1]
        have k1 : (a[q].toNat : Int) < (b[q].toNat : Int) := by omega
        clear hd h1
        go_wp2
        go_quiet (fail)
        go_wp2
        go_ret
        exact ⟨by rw [H1.out]; rfl, below_drewN (below_drewN (Below.refl _ _) _) _⟩
      · have k1 : ¬ (a[q].toNat : Int) < (b[q].toNat : Int) := by omega
        by_cases h2 : b[q].toNat < a[q].toNat
        · have H1 : Hid (ordL a.data.toList b.data.toList = 1) := by unfold Hid; rw [HQ.out, hd, if_neg h1, if_pos h2]
          have k2 : (b[q].toNat : Int) < (a[q].toNat : Int) := by omega
          clear hd h1 h2
          go_wp2
          go_quiet (fail)
          go_wp2
          go_quiet (fail)
          go_wp2
          go_ret
          exact ⟨by rw [H1.out]; rfl, below_drewN (below_drewN (below_drewN (Below.refl _ _) _) _) _⟩
        · have H1 : Hid (ordL a.data.toList b.data.toList = ordL (a.data.toList.drop (q + 1)) (b.data.toList.drop (q + 1))) := by unfold Hid; rw [HQ.out, hd, if_neg h1, if_neg h2]
          have k2 : ¬ (b[q].toNat : Int) < (a[q].toNat : Int) := by omega
          clear hd h1 h2
          go_wp2
          go_quiet (fail)
          go_wp2
          go_quiet (fail)
          go_wp2
          go_roundw
          case rel => exact ⟨q + 1, _, by omega, by omega, by go_num, rfl, H1⟩
          case measure => simp [intOf]; omega
    · have hd := ordL_end a b q hqa hqb (by omega)
      have H1 : Hid (ordL a.data.toList b.data.toList = if a.size < b.size then -1 else if b.size < a.size then 1 else 0) := by unfold Hid; rw [HQ.out, hd]
      have hE := below_drewN (Below.refl w.heap.size w) n
      clear hd
      by_cases ha' : q < a.size
      · have hb' : ¬ (q : Int) < b.size := by omega
        have ha2 : (q : Int) < a.size := by omega
        have s1 : ¬ (a.size : Int) < b.size := by omega
        have s2 : (b.size : Int) < a.size := by omega
        have H2 : Hid (ordL a.data.toList b.data.toList = 1) := by unfold Hid; rw [H1.out, if_neg (by omega), if_pos (by omega)]
        clear hl
        go_wp2
        go_ret
        exact ⟨by rw [H2.out]; rfl, hE⟩
      · have ha2 : ¬ (q : Int) < a.size := by omega
        by_cases hs : a.size < b.size
        · have s1 : (a.size : Int) < b.size := by omega
          have H2 : Hid (ordL a.data.toList b.data.toList = -1) := by unfold Hid; rw [H1.out, if_pos hs]
          clear hl hs
          go_wp2
          go_ret
          exact ⟨by rw [H2.out]; rfl, hE⟩
        · have s1 : ¬ (a.size : Int) < b.size := by omega
          have s2 : ¬ (b.size : Int) < a.size := by omega
          have H2 : Hid (ordL a.data.toList b.data.toList = 0) := by unfold Hid; rw [H1.out, if_neg hs, if_neg (by omega)]
          clear hl hs
          go_wp2
          go_ret
          exact ⟨by rw [H2.out]; rfl, hE⟩
end Go.Proofs.YthinpbdbhijbgaaGreatDoor
