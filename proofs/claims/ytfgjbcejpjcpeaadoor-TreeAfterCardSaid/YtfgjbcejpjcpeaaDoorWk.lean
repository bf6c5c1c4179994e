/- What the rounds of TreeWalks keep. -/
import Derived.Test.YtfgjbcejpjcpeaaDoorAlive
import Derived.Test.YtfgjbcejpjcpeaaDoorTells
import Derived.Test.YtfgjbcejpjcpeaaDoorCut
import Derived.Test.YtfgjbcejpjcpeaaDoorFrom
import Derived.Test.YtfgjbcejpjcpeaaDoorRSame
namespace Go.Proofs.YtfgjbcejpjcpeaaDoor
open Go.RowKit Go.Sort
set_option maxHeartbeats 4000000
set_option maxRecDepth 100000
attribute [local go_sem] Oper.semAt_some

theorem nodesOf_vals {M : List (Key × Nd)} (h : MSorted M) : nodesOf M (M.map (·.1)) = M.map (·.2) := by
  unfold nodesOf
  rw [List.map_map]
  refine List.map_congr_left fun x hx => ?_
  show (mget M x.1).getD zeroN = x.2
  rw [mget_of_mem h (show (x.1, x.2) ∈ M from hx)]
  rfl

theorem NdsAt.ext {w w' : World} {a : Option Addr} {L : List Nd} (h : NdsAt w.heap.size w a L) (hb : Ext w w') : NdsAt w'.heap.size w' a L := fun i n hi => by
  obtain ⟨b, off, v, h1, h2, h3, h4⟩ := h i n hi
  exact ⟨b, off, v, h1, Nat.lt_of_lt_of_le h2 hb.size, (h3.below hb).mono hb.size, fun j u hj => (hb.cell (p := ⟨b, off + i * 17 + j, none⟩) h2).trans (h4 j u hj)⟩

theorem wp_skipped {P : Program} {Q : Exit → Act → World → Prop} {o : Oper} {a : Act} {w w' : World} {K : Act → World → Prop} (h : (execOp a.eval o).run P w = .ok .skip w') (hk : K (a.put o.dst undef) w') : o.wp P a w K Q := by
  unfold Oper.wp
  rw [h]
  exact hk
theorem infoInt : (Tryd.prog.info? 3).map (·.size) = some 1 := by kernel_rfl
theorem infoBool : (Tryd.prog.info? 4).map (·.size) = some 1 := by kernel_rfl
theorem results_cell_bool {fn : Func} {p : Tmp} {ty : TypeId} (h : fn.results = #[.cell p ty]) (tmps : Array Value) (w : World) (g : Nat) (v : Value)
    (hp : tmps.getD p undef = .pointer (some ⟨g, 0, none⟩)) (hc : w.cell? ⟨g, 0, none⟩ = some v) (hu : Tryd.prog.underlying ty = some .bool) : (results fn tmps).run Tryd.prog w = .ok v w := by
  have hp' : tmps[p]?.getD undef = .pointer (some ⟨g, 0, none⟩) := by simpa using hp
  simp [results, h, hp', asAddr, loadVar, isAgg, run_underlying hu, go_sem, hc]

/-- The first loop's rounds. -/
structure WalkC (S : Nat → Prop) (bt ga N : Nat) (M : List (Key × Nd)) (w W7 : World) (m at' : Nat) (W : World) : Prop where
  one : 1 ≤ m
  le : m ≤ M.length
  tree : TreeAt S W bt (M.take m) N
  box : W.heap[ga]? = some (.cells #[.int .i64 at'] 3 (0, 0))
  cells : ∀ k c e f, W7.heap[k]? = some (.cells c e f) → k ≠ ga → W.heap[k]? = some (.cells c e f)
  size : W7.heap.size ≤ W.heap.size
  keep : Below w.heap.size w W
def WalkI (S : Nat → Prop) (bt ga N : Nat) (M : List (Key × Nd)) (w W7 : World) (stop : Int) (pre : List (Value × Nd)) (W : World) : Prop :=
  (0 < stop → (pre.length : Int) < stop) ∧ ∃ m, WalkC S bt ga N M w W7 m pre.length W ∧ (pre ≠ [] → m = 1)
def WalkX (S : Nat → Prop) (bt ga N : Nat) (M : List (Key × Nd)) (w W7 : World) (stop : Int) (c : Code) (pre : List (Value × Nd)) (W : World) : Prop :=
  c = .exit 0 ∧ (pre.length : Int) = stop ∧ ∃ m, WalkC S bt ga N M w W7 m pre.length W ∧ (1 < pre.length → m = 1)

theorem WalkC.turn {S : Nat → Prop} {bt ga N : Nat} {M : List (Key × Nd)} {w W7 : World} {m p : Nat} {X Y : World} (h : WalkC S bt ga N M w W7 m p X) (hT : Turn W7.heap.size X Y) (hS : ∀ k, S k → k < W7.heap.size) (hw : w.heap.size ≤ W7.heap.size) : WalkC S bt ga N M w W7 m p Y :=
  ⟨h.one, h.le, h.tree.keep (fun k hk => by
      have hlt := h.tree.bound k hk
      rw [hT.same k _ (Array.getElem?_eq_getElem hlt) (.inl (hS k hk)), Array.getElem?_eq_getElem hlt]) (fun _ h => h) (fun k hk => Nat.lt_of_lt_of_le (h.tree.bound k hk) hT.size) (Nat.le_refl _),
    hT.cells h.box, fun k c e f hk hn => hT.cells (h.cells k c e f hk hn), Nat.le_trans h.size hT.size, h.keep.trans (hT.below hw h.keep.size)⟩

theorem ex_load_at {P : Program} {o : Oper} {a : Act} {w : World} {ty : TypeId} {x : Operand} (ho : o.op = .load ty x) (p : Addr) (hx : a.eval x = .pointer (some p)) (cs : Array Value) (hc : ∀ j u, cs[j]? = some u → w.cell? (p.add j) = some u) {d : TypeDesc}
    (hu : P.underlying ty = some d) (hd : oneD d = false) (hi : (P.info? ty).map (·.size) = some cs.size) : (execOp a.eval o).run P w = .ok (.value (.agg cs)) w := by
  unfold execOp
  simp only [ho, hx, Instr.loadAt, Instr.sureAddr, Sem.run_bind, Sem.run_pure, Result.andThen_ok, run_loadVar_at w p ty cs d hc hu hd hi]

theorem nds_parts {S : Nat → Prop} {w : World} {n : Nd} {da aa : Option Addr} {dc ac : Nat} (h : NdS S w (.agg (ndC n (.slice da n.data.length dc) (.slice aa n.acl.length ac))) n) : CellsS S w da (n.data.map u8v) ∧ CellsS S w aa (acCs n.acl) := by
  obtain ⟨da', dc', aa', ac', e4, h4, h5⟩ := h
  simp only [Value.agg.injEq] at e4
  have q1 := congrArg (·[1]?) e4
  have q2 := congrArg (·[2]?) e4
  simp [ndC] at q1 q2
  rw [q1.1, q2.1]
  exact ⟨h4, h5⟩

/-- What a round's steps keep. -/
structure Kp (B ga : Nat) (W W' : World) : Prop where
  recs : KeepsRec B W W'
  cells : KeepS (fun _ k => k ≠ ga) W W'
theorem Kp.trans {B ga : Nat} {X Y Z : World} (h : Kp B ga X Y) (k : Kp B ga Y Z) : Kp B ga X Z :=
  ⟨h.recs.trans k.recs, Nat.le_trans h.cells.1 k.cells.1, fun i c e f hi hs => k.cells.2 i c e f (h.cells.2 i c e f hi hs).1 hs⟩
theorem Kp.ext {B ga : Nat} {W W' : World} (h : Ext W W') : Kp B ga W W' :=
  ⟨KeepsRec.of_ext h, h.size, fun _ _ _ _ hk hs => ⟨(h.block _ (Array.getElem?_eq_some_iff.1 hk).1).trans hk, hs⟩⟩
theorem Kp.set {B ga : Nat} (W : World) (cs : Array Value) (h : ga < B) : Kp B ga W (W.setRow ga cs) :=
  ⟨⟨by simp, fun k o hB hk _ => (setRow_other _ _ _ _ (by omega)).trans hk⟩, by simp, fun k c e f hk hs => ⟨(setRow_other _ _ _ _ hs).trans hk, hs⟩⟩
theorem Kp.mod {B ga : Nat} {S : Nat → Prop} {W W' : World} (h : Mod S W W') (hS : ∀ k, S k → k < B) : Kp B ga W W' :=
  ⟨⟨h.size, fun k o hB hk _ => h.same k o hk (.inl fun hs => by have := hS k hs; omega)⟩, h.size, fun _ _ _ _ hk hs => ⟨h.cells hk, hs⟩⟩
theorem WalkC.ext {S : Nat → Prop} {bt ga N : Nat} {M : List (Key × Nd)} {w W7 : World} {m p : Nat} {X Y : World} (h : WalkC S bt ga N M w W7 m p X) (hE : Ext X Y) (hS : ∀ k, S k → k < W7.heap.size) (hw : w.heap.size ≤ W7.heap.size) : WalkC S bt ga N M w W7 m p Y :=
  h.turn (Turn.of_ext hE) hS hw
theorem WalkC.bump {S : Nat → Prop} {bt ga N : Nat} {M : List (Key × Nd)} {w W7 : World} {m p q : Nat} {X : World} (h : WalkC S bt ga N M w W7 m p X) (hS : ∀ k, S k → k ≠ ga) (hw : w.heap.size ≤ ga) : WalkC S bt ga N M w W7 m q (X.setRow ga #[.int .i64 q]) :=
  ⟨h.one, h.le, h.tree.keep (fun k hk => setRow_other _ _ _ _ (hS k hk)) (fun _ h => h) (fun k hk => by simpa using h.tree.bound k hk) (Nat.le_refl _),
    setRow_heap _ _ _ _ _ _ h.box, fun k c e f hk hn => (setRow_other _ _ _ _ hn).trans (h.cells k c e f hk hn), by simpa using h.size, h.keep.trans ⟨rfl, rfl, rfl, by simp, fun k hk => setRow_other _ _ _ _ (by omega)⟩⟩
theorem WalkC.cell {S : Nat → Prop} {bt ga N : Nat} {M : List (Key × Nd)} {w W7 : World} {m p : Nat} {X : World} (h : WalkC S bt ga N M w W7 m p X) {b o : Nat} {u : Value} (hu : W7.cell? ⟨b, o, none⟩ = some u) (hb : b ≠ ga) : X.cell? ⟨b, o, none⟩ = some u := by
  obtain ⟨c', e', f', hk'⟩ := cell_cells hu
  rw [World.cell?_of_block ((h.cells b c' e' f' hk' hb).trans hk'.symm)]
  exact hu


/-- One removal within the first loop. -/
theorem WalkC.rem {S : Nat → Prop} {bt ga N : Nat} {M : List (Key × Nd)} {w W7 : World} {m m' p : Nat} {X Y : World} (h : WalkC S bt ga N M w W7 m p X) (hS : ∀ k, S k → k ≠ ga ∧ w.heap.size ≤ k) (h1 : 1 ≤ m') (hl : m' ≤ M.length) (hT : TreeAt S Y bt (M.take m') N) (hM : Mod S X Y) : WalkC S bt ga N M w W7 m' p Y :=
  ⟨h1, hl, hT, hM.cells h.box, fun k c e f hk hn => hM.cells (h.cells k c e f hk hn), Nat.le_trans h.size hM.size, h.keep.trans (hM.below (fun k hk => (hS k hk).2) h.keep.size)⟩
end Go.Proofs.YtfgjbcejpjcpeaaDoor
