/- The walk of the law's All: a range over a tree's nodes. The walk of Count. The walk of the law's own small tree. A range over a tree's nodes: the loop variable in a box of its own. A tree is cut down from the last path on: what is left. Plain laws: when two structs are equal, as the model has it. The walks of the reference's look whether two nodes are alike. What the rounds of TreeWalks keep. Small laws on memory: a store into the middle of a row; what changes but for a set of blocks; an append to a row of the call's own, in a region that draws. Rows that show nodes: what they hold, their first places and those behind them, rows of the call's own; a slice of a slice. The document's tree, plainly: a list of nodes in order; where a path stands in it. A row of the call's own that shows nodes that were cloned for it; how it grows by one. -/
import Derived.Test.YtclekhjnnljjlaaGreatDoorJFuzzyWhole6
import Derived.Great.BuildSlice
import Derived.Test.YtclekhjnnljjlaaGreatDoorJFuzzyWhole5
import Derived.Test.YtclekhjnnljjlaaGreatDoorJFuzzyWhole2
import Derived.Deep.RegionLaw
namespace Go.Proofs.YtclekhjnnljjlaaGreatDoor
open Go.RowKit Go.Sort
set_option maxHeartbeats 2000000
set_option maxRecDepth 100000
attribute [local go_sem] Oper.semAt_some

theorem infoSl : (Tryz.prog.info? 22).map (·.size) = some 1 := by kernel_rfl

theorem run_store_one {P : Program} {o : Oper} {a : Act} {w : World} (ty : TypeId) (x y : Operand) (ho : o.op = .store ty x y)
    (g : Nat) (v : Value) (hx : a.eval x = .pointer (some ⟨g, 0, none⟩)) (hy : a.eval y = v) (h1 : v.oneCell' = true)
    (t : TypeId) (old : Value) (hg : w.heap[g]? = some (.cells #[old] t (0, 0))) (hi : (P.info? ty).map (·.size) = some 1) : (execOp a.eval o).run P w = .ok .skip (w.setRow g #[v]) := by
  subst hy
  unfold execOp
  simp only [ho, hx, Instr.storeAt, Instr.sureAddr, Sem.run_bind, Sem.run_pure, Result.andThen_ok, run_storeVar_one w g t ty old _ hg hi h1]

/-- All but the box of the list and the list's own row. -/
def SafeO (bo : Nat) (W : World) (k : Nat) : Prop := k ≠ bo ∧ ∃ v, W.cell? ⟨bo, 0, none⟩ = some v ∧ v.ownBlock ≠ some k

/-- The rounds' invariant: what the list holds. -/
structure AllI (B bo bm : Nat) (w : World) (most : Nat) (pre : List (Value × Nd)) (vs : List (Array Value)) (v : Value) (W : World) : Prop where
  vals : pre.map (·.1) = vs.map Value.agg
  box : W.heap[bo]? = some (.cells #[v] 22 (0, 0))
  lim : W.heap[bm]? = some (.cells #[.int .i64 most] 3 (0, 0))
  row : W.ownsRow B 88 17 v pre.length (vs.flatMap Array.toList)
  nds : ∀ x ∈ pre, GS (SafeO bo) x W
  size : B ≤ W.heap.size
  keep : Below w.heap.size w W

theorem ownBlock_lt {w : World} {base e size n : Nat} {v : Value} {xs : List Value} (h : w.ownsRow base e size v n xs) (k : Nat) (hk : v.ownBlock = some k) : ∃ c, w.heap[k]? = some (.cells c e (0, 0)) := by
  rcases h.2 with ⟨rfl, _⟩ | ⟨g, cap, cur, rfl, _, hg, _⟩
  · simp [Value.ownBlock] at hk
  · simp [Value.ownBlock] at hk
    subst hk
    exact ⟨_, hg⟩

theorem row_at {w w' : World} {base e size n : Nat} {v : Value} {xs : List Value} (h : w.ownsRow base e size v n xs) (hk : ∀ g c, v.ownBlock = some g → w.heap[g]? = some (.cells c e (0, 0)) → w'.heap[g]? = some (.cells c e (0, 0))) : w'.ownsRow base e size v n xs := by
  refine ⟨h.1, ?_⟩
  rcases h.2 with h2 | ⟨g, cap, cur, rfl, h1, hg, h3⟩
  · exact .inl h2
  · exact .inr ⟨g, cap, cur, rfl, h1, hk g cur (by simp [Value.ownBlock]) hg, h3⟩

theorem Turn.cells {B : Nat} {X Y : World} (h : Turn B X Y) {k : Nat} {c : Array Value} {e : TypeId} {f : Nat × Nat} (hk : X.heap[k]? = some (.cells c e f)) : Y.heap[k]? = some (.cells c e f) := h.same k _ hk (.inr rfl)
theorem Turn.cell {B : Nat} {X Y : World} (h : Turn B X Y) {a : Addr} {u : Value} (hu : X.cell? a = some u) : Y.cell? a = some u := by
  obtain ⟨c, e, f, hk⟩ := cell_cells hu
  rw [World.cell?_of_block ((h.cells hk).trans hk.symm)]
  exact hu
theorem SafeO.turn {B bo : Nat} {X Y : World} (hT : Turn B X Y) (k : Nat) (h : SafeO bo X k) : SafeO bo Y k := by
  obtain ⟨h1, v, h2, h3⟩ := h
  exact ⟨h1, v, hT.cell h2, h3⟩
theorem gs_turn {B bo : Nat} {x : Value × Nd} {X Y : World} (h : GS (SafeO bo) x X) (hT : Turn B X Y) : GS (SafeO bo) x Y :=
  NdS.imp h (fun b hb => ⟨hb.1.turn hT, Nat.lt_of_lt_of_le hb.2 hT.size⟩) fun _ _ _ _ hu => hT.cell hu
theorem keepS_turn {B bo : Nat} {A X Y Z : World} (h : Turn B A X) (hk : KeepS (SafeO bo) X Y) (h2 : Turn B Y Z) : KeepS (SafeO bo) A Z :=
  ⟨Nat.le_trans h.size (Nat.le_trans hk.1 h2.size), fun k c e f hc hs => by
    obtain ⟨h3, h4⟩ := hk.2 k c e f (h.cells hc) (hs.turn h)
    exact ⟨h2.cells h3, h4.turn h2⟩⟩

theorem allI_turn {B bo bm : Nat} {w : World} {most : Nat} {pre : List (Value × Nd)} {vs : List (Array Value)} {v : Value} {X Y : World} (hI : AllI B bo bm w most pre vs v X) (hT : Turn B X Y) (hbo : bo < B) (hw : w.heap.size ≤ B) :
    AllI B bo bm w most pre vs v Y ∧ (∀ k, SafeO bo X k → SafeO bo Y k) ∧ ∀ k, X.heap.size ≤ k → SafeO bo Y k :=
  ⟨⟨hI.vals, hT.cells hI.box, hT.cells hI.lim, row_at hI.row fun _ _ _ hc => hT.cells hc, fun x hx => gs_turn (hI.nds x hx) hT, Nat.le_trans hI.size hT.size, hI.keep.trans (hT.below hw hI.keep.size)⟩,
    fun k h => h.turn hT, fun k hk => ⟨by have := hI.size; omega, v, hT.cell (cell_of_row _ _ _ _ _ _ hI.box), fun e => by
      obtain ⟨c, hc⟩ := ownBlock_lt hI.row k e
      have := (Array.getElem?_eq_some_iff.1 hc).1
      omega⟩⟩

theorem allI_step {B bo bm : Nat} {w : World} {most : Nat} {pre : List (Value × Nd)} {vs : List (Array Value)} {v : Value} {W w5 : World} {cs : Array Value} {n : Nd} {v' : Value} {T' : TypeId} (hI : AllI B bo bm w most pre vs v W) (hbo : bo < B) (hbm : bm < B) (hne : bm ≠ bo) (hwo : w.heap.size ≤ bo)
    (hx : GS (SafeO bo) (.agg cs, n) W) (hown : w5.ownsRow B 88 17 v' (pre.length + 1) (vs.flatMap Array.toList ++ cs.toList)) (hg : (W.alloc (.cells cs T')).grownBy w5 v.ownBlock) (ho : v'.ownBlock = v.ownBlock ∨ v'.ownBlock = some (W.heap.size + 1)) :
    AllI B bo bm w most (pre ++ [(.agg cs, n)]) (vs ++ [cs]) v' (w5.setRow bo #[v']) ∧ KeepsRec B W (w5.setRow bo #[v']) ∧ KeepS (SafeO bo) W (w5.setRow bo #[v']) ∧ w5.heap[bo]? = some (.cells #[v] 22 (0, 0)) := by
  have hz := hg.size
  have hsz := hI.size
  simp only [World.size_alloc] at hz
  have hblk : ∀ k o, W.heap[k]? = some o → v.ownBlock ≠ some k → w5.heap[k]? = some o := fun k o hk hn => by
    have hlt := (Array.getElem?_eq_some_iff.1 hk).1
    exact (hg.block k (by simp; omega) (fun e => hn e.symm)).trans ((heap_alloc_old W _ hlt).trans hk)
  have h6 : ∀ k o, k ≠ bo → W.heap[k]? = some o → v.ownBlock ≠ some k → (w5.setRow bo #[v']).heap[k]? = some o := fun k o hk ho hn => (setRow_other _ _ _ _ hk).trans (hblk k o ho hn)
  have hov : ∀ k, k < B → v.ownBlock ≠ some k := fun k hk e => by have := ownBlock_ge hI.row k e; omega
  have hbo5 := hblk bo _ hI.box (hov bo hbo)
  have hbo6 := setRow_heap w5 bo _ #[v'] _ _ hbo5
  have hc6 : (w5.setRow bo #[v']).cell? ⟨bo, 0, none⟩ = some v' := cell_of_row _ _ _ _ _ _ hbo6
  have hcv : W.cell? ⟨bo, 0, none⟩ = some v := cell_of_row _ _ _ _ _ _ hI.box
  have hsafe : ∀ k, k < W.heap.size → SafeO bo W k → SafeO bo (w5.setRow bo #[v']) k := fun k hk hs => ⟨hs.1, v', hc6, fun e => by
    obtain ⟨h1, u, h2, h3⟩ := hs
    rw [hcv] at h2
    cases h2
    rcases ho with h | h
    · exact h3 (h.symm.trans e)
    · rw [h] at e; cases e; omega⟩
  have hnb : ∀ k, SafeO bo W k → v.ownBlock ≠ some k := fun k hs => by
    obtain ⟨h1, u, h2, h3⟩ := hs
    rw [hcv] at h2
    cases h2
    exact h3
  have hgs : ∀ x, GS (SafeO bo) x W → GS (SafeO bo) x (w5.setRow bo #[v']) := fun x h => NdS.imp h (fun b hb => ⟨hsafe b hb.2 hb.1, by have := hb.2; simp; omega⟩) fun b o u hb hu => by
    obtain ⟨c, e, f, hk⟩ := cell_cells hu
    rw [World.cell?_of_block ((h6 b _ hb.1.1 hk (hnb b hb.1)).trans hk.symm)]
    exact hu
  refine ⟨⟨by simp [hI.vals], hbo6, h6 bm _ hne hI.lim (hov bm hbm), ?_, fun x hm => ?_, by simp; omega, ?_⟩, ⟨by simp; omega, fun k o hB hk hr => ?_⟩, ⟨by simp; omega, fun k c e f hk hs => ⟨h6 k _ hs.1 hk (hnb k hs), hsafe k (Array.getElem?_eq_some_iff.1 hk).1 hs⟩⟩, hbo5⟩
  · have := row_at hown (w' := w5.setRow bo #[v']) fun g c hg' hc => (setRow_other _ _ _ _ (fun e => by have := ownBlock_ge hown g hg'; omega)).trans hc
    simpa using this
  · rcases List.mem_append.1 hm with hm | hm
    · exact hgs x (hI.nds x hm)
    · simp at hm; subst hm; exact hgs _ hx
  · refine hI.keep.trans ⟨hg.os, hg.tape, hg.output, by simp; omega, fun k hk => ?_⟩
    have hlt := hI.keep.size
    have hlk : k < W.heap.size := by omega
    exact (h6 k _ (by omega) (Array.getElem?_eq_getElem hlk) (hov k (by omega))).trans (Array.getElem?_eq_getElem hlk).symm
  · refine h6 k o (by omega) hk fun e => ?_
    obtain ⟨c, hc⟩ := ownBlock_lt hI.row k e
    rw [hk] at hc
    cases hc
    cases hr

/-- What All hands back: rows that show the nodes. -/
def AllOut (ns : List Nd) (w : World) (e : Ending) (w' : World) : Prop :=
  ∃ (v : Value) (vs : List (Array Value)), e = .returned v ∧ vs.length = ns.length ∧ w'.ownsRow w.heap.size 88 17 v ns.length (vs.flatMap Array.toList) ∧ (∀ (j : Nat) (cs : Array Value), vs[j]? = some cs → ∃ n, ns[j]? = some n ∧ NdS (· < w'.heap.size) w' (.agg cs) n) ∧ Below w.heap.size w w'

theorem allOut_of {B bo bm : Nat} {w : World} {most : Nat} {pre : List (Value × Nd)} {vs : List (Array Value)} {v : Value} {W : World} (hI : AllI B bo bm w most pre vs v W) (hw : w.heap.size ≤ B) {ns : List Nd} (hn : pre.map (·.2) = ns) : AllOut ns w (.returned v) W := by
  subst hn
  have hl : vs.length = pre.length := by simpa using (congrArg List.length hI.vals).symm
  refine ⟨v, vs, rfl, by simp [hl], by simpa using ownsRow_base_a hI.row hw, fun j cs hj => ?_, hI.keep⟩
  have hjl := (List.getElem?_eq_some_iff.1 hj).1
  have hjp : j < pre.length := by omega
  refine ⟨pre[j].2, by simp [hjp], ?_⟩
  have h1 : pre[j].1 = .agg cs := by
    have := congrArg (·[j]?) hI.vals
    simpa [hjp, hj] using this
  have := hI.nds pre[j] (List.getElem_mem hjp)
  unfold GS at this
  rw [h1] at this
  exact this.imp (fun b hb => hb.2) fun _ _ _ _ h => h

theorem told_not_nil (c : Array Value) (W : World) : (binOp .eql 90 (.func (.func 97) #[] c) .nilFunc).run Tryz.prog W = .ok (.bool false) W := by kernel_rfl

def AllR (bo bm B : Nat) (w : World) (most : Nat) (pre : List (Value × Nd)) (W : World) : Prop := ∃ vs v, AllI B bo bm w most pre vs v W ∧ pre.length ≤ most
def AllX (bo bm B : Nat) (w : World) (most : Nat) (c : Code) (pre : List (Value × Nd)) (W : World) : Prop := c = .exit 0 ∧ ∃ vs v, AllI B bo bm w most pre vs v W ∧ pre.length = most + 1
def AllA (fr : Value → Value → Act) (x : Value × Nd) (a' : Act) (W : World) : Prop := ∃ (bl : Nat) (cs : Array Value), x.1 = .agg cs ∧ W.heap[bl]? = some (.cells cs 88 (0, 0)) ∧ a' = fr (.pointer (some ⟨bl, 0, none⟩)) (.agg cs)

set_option maxHeartbeats 4000000 in
theorem lall_any (S : Nat → Prop) (w : World) (bt : Nat) (M : List (Key × Nd)) (N : Nat) (hT : TreeAt S w bt M N) (most : Nat) (hmost : most < maxLen) (hks : M.length * 168 ≤ 140737488355328) (hkl : ∀ k ∈ M.map (·.1), k.length ≤ maxLen) :
    Calls Tryz.prog 12 #[.pointer (some ⟨bt, 0, none⟩), .int .i64 most] w (AllOut ((nodesOf M (M.map (·.1))).take (most + 1)) w) := by
  have HT := Lib.hid hT
  clear hT
  refine (callsIn_wide (n := 6)).1 (callsIn_of_wp_marks Tryz.func12 rfl trivial ?_)
  simp only [Tryz.ntmps12, List.size_toArray, List.length_cons, List.length_nil, Nat.reduceAdd, Nat.reduceSub, Array.replicate_succ, Array.replicate_zero, List.push_toArray, List.append_toArray, List.nil_append, List.cons_append]
  gi_wp2_with fail
  refine ⟨trivial, (callsIn_wide.2 (tall_any bt _)).mono ?_⟩
  rintro e W1 ⟨bw, btb, rfl, hcw, hct, hE1⟩
  have hbx : ((w.alloc (.cells #[.int .i64 most] 3)).alloc (.cells #[.slice none 0 0] 22)).heap[w.heap.size + 1]? = some (.cells #[.slice none 0 0] 22 (0, 0)) := by
    have := heap_alloc_new (w.alloc (.cells #[.int .i64 most] 3)) (.cells #[.slice none 0 0] 22)
    rwa [World.size_alloc] at this
  have hbm : ((w.alloc (.cells #[.int .i64 most] 3)).alloc (.cells #[.slice none 0 0] 22)).heap[w.heap.size]? = some (.cells #[.int .i64 most] 3 (0, 0)) :=
    (heap_alloc_old _ _ (by simp)).trans (heap_alloc_new w _)
  have hbx1 := (hE1.block _ (Array.getElem?_eq_some_iff.1 hbx).1).trans hbx
  have hbm1 := (hE1.block _ (Array.getElem?_eq_some_iff.1 hbm).1).trans hbm
  have hEw : Ext w W1 := ((Ext.alloc w _).trans (Ext.alloc _ _)).trans hE1
  have hz1 := hE1.size
  simp only [World.size_alloc] at hz1
  have hT1 := HT.out.ext hEw
  have hbd := HT.out.bound
  have hI0 : AllI W1.heap.size (w.heap.size + 1) w.heap.size w most [] [] (.slice none 0 0) W1 :=
    ⟨rfl, hbx1, hbm1, World.ownsRow_nil _ _ _ _, by simp, Nat.le_refl _, hEw⟩
  have hs1 : ∀ k, S k → SafeO (w.heap.size + 1) W1 k := fun k hk => ⟨by have := hbd k hk; omega, _, cell_of_row _ _ _ _ _ _ hbx1, by simp [Value.ownBlock]⟩
  have hOk := hT1.ok
  have TT := told_tells (SafeO (w.heap.size + 1)) S W1 bt M N hT1 hs1 bw btb 62 #[.pointer (some ⟨bt, 0, none⟩)] #[] hcw hct (enters_of Tryz.func62 (by kernel_rfl) rfl) (M.map (·.1))
    (fun W hW => by simpa using tsorted_any S W bt M N (hT1.ext hW) (by omega)) (by simpa using hks) hkl
  have TT := Lib.hid TT
  have hnn := told_not_nil #[.pointer (some ⟨bw, 0, none⟩), .pointer (some ⟨btb, 0, none⟩)] W1
  have HI0 := Lib.hid hI0
  clear hbx hbm hbx1 hbm1 hE1 hT1 hbd hs1 hI0 hcw hct HT hEw
  gi_wp2
  refine wpIn_tells rfl (by omega) (gf := 97) (lb := #[.pointer (some ⟨bw, 0, none⟩), .pointer (some ⟨btb, 0, none⟩)]) rfl trivial (enters_of Tryz.func97 (by kernel_rfl) rfl) TT.out (fun _ => rfl)
    (AllR (w.heap.size + 1) w.heap.size W1.heap.size w most) (AllX (w.heap.size + 1) w.heap.size W1.heap.size w most)
    (AllA fun p c => { tmps := #[.pointer (some ⟨bt, 0, none⟩), .int .i64 most, undef, .pointer (some ⟨w.heap.size, 0, none⟩), .slice none 0 0, .pointer (some ⟨w.heap.size + 1, 0, none⟩), .func (.func 97) #[] #[.pointer (some ⟨bw, 0, none⟩), .pointer (some ⟨btb, 0, none⟩)], p, .pointer (some ⟨bt, 0, none⟩), .func (.func 97) #[] #[.pointer (some ⟨bw, 0, none⟩), .pointer (some ⟨btb, 0, none⟩)], .func (.func 97) #[] #[.pointer (some ⟨bw, 0, none⟩), .pointer (some ⟨btb, 0, none⟩)], .bool false, .func (.func 97) #[] #[.pointer (some ⟨bw, 0, none⟩), .pointer (some ⟨btb, 0, none⟩)], c, undef, undef, undef, undef, undef, undef, undef, undef, undef], defers := [] })
    (fun A X Y B h1 h2 h3 => keepS_turn h1 h2 h3) ?hI ?hIx (fun x X Y h1 h2 => gs_turn h1 h2) ?hAx ⟨[], _, HI0.out, Nat.zero_le _⟩ ?assign ?body ?done ?stop
  case hI =>
    rintro pre X Y ⟨vs, v, h, hl⟩ hT
    obtain ⟨h1, h2, h3⟩ := allI_turn h hT (by omega) (by omega)
    exact ⟨⟨vs, v, h1, hl⟩, h2, h3⟩
  case hIx =>
    rintro c pre X Y ⟨hc, vs, v, h, hl⟩ hT
    exact ⟨hc, vs, v, (allI_turn h hT (by omega) (by omega)).1, hl⟩
  case hAx =>
    rintro x a' X Y ⟨bl, cs, h1, h2, h3⟩ hT
    exact ⟨bl, cs, h1, hT.cells h2, h3⟩
  case assign =>
    rintro l pre ⟨xv, n⟩ W K ⟨vs, v, hI, hl⟩ hG hK
    obtain ⟨da, dc, aa, ac, e, _⟩ := hG
    dsimp only at e
    subst e
    obtain ⟨W2, hW2⟩ : ∃ W2, W2 = W.alloc (.cells (ndC n (.slice da n.data.length dc) (.slice aa n.acl.length ac)) 88) := ⟨_, rfl⟩
    have hax := hK _ W2 (by rw [hW2]; exact Ext.alloc _ _) ⟨W.heap.size, _, rfl, by rw [hW2]; exact heap_alloc_new W _, rfl⟩
    have HSET := Lib.hid ((setRow_alloc W zeroNd (ndC n (.slice da n.data.length dc) (.slice aa n.acl.length ac)) 88).trans hW2.symm)
    have HNew := Lib.hid (heap_alloc_new W (.cells zeroNd 88))
    have HAX := Lib.hid hax
    unfold ndC at HSET HAX ⊢
    unfold zeroNd at HSET HNew
    clear hK hI hW2 hax TT HI0
    gi_wp2_with (refine wpListIn_store_row (fun _ => trivial) rfl 88 (.tmp 7) (.tmp 13) rfl W.heap.size _ rfl rfl 88 _ HNew.out sizeNd rfl (cells_node n da aa _ _ dc ac) ?_; rw [HSET.out])
    exact HAX.out
  case body =>
    rintro l pre ⟨xv, n⟩ a' W hl0 _ ⟨rest, hSp⟩ ⟨vs, v, hI, hl⟩ hG ⟨bl, cs, e, hbl, rfl⟩
    dsimp only at e
    subst e
    have hG2 := hG
    obtain ⟨da, dc, aa, ac, e, _⟩ := hG
    simp only [Value.agg.injEq] at e
    subst e
    have hpl : pre.length + 1 ≤ M.length := by
      have := congrArg List.length hSp
      simp [nodesOf] at this
      omega
    have hv : W.cell? ⟨w.heap.size + 1, 0, none⟩ = some v := cell_of_row _ _ _ _ _ _ hI.box
    have hs17 : Cells (W.alloc (.cells (ndC n (.slice da n.data.length dc) (.slice aa n.acl.length ac)) 88)).heap.size (W.alloc (.cells (ndC n (.slice da n.data.length dc) (.slice aa n.acl.length ac)) 88)) (some ⟨W.heap.size, 0, none⟩) (ndC n (.slice da n.data.length dc) (.slice aa n.acl.length ac)).toList := fun j u hj => by
      refine ⟨_, 0, rfl, by simp, ?_⟩
      rw [Nat.zero_add, cell_of_row _ _ _ _ _ _ (heap_alloc_new W _)]
      simpa using hj
    have hsrc : Src Tryz.prog 17 22 (.slice (some ⟨W.heap.size, 0, none⟩) 1 1) 1 (ndC n (.slice da n.data.length dc) (.slice aa n.acl.length ac)).toList (W.alloc (.cells (ndC n (.slice da n.data.length dc) (.slice aa n.acl.length ac)) 88)) :=
      hs17.src Tryz.underlying22 1 1 (by simp [ndC]) (fun u hu => by
        have := cells_node n da aa n.data.length n.acl.length dc ac
        rw [← Array.all_toList] at this
        exact List.all_eq_true.1 this u hu)
    obtain ⟨i0, hi, hz0, hz1', hz2⟩ := info_parts infoNd
    have hownA := hI.row.alloc (.cells (ndC n (.slice da n.data.length dc) (.slice aa n.acl.length ac)) 88)
    have hszB := hI.size
    have HI := Lib.hid hI
    have HG := Lib.hid hG2
    have HBL := Lib.hid hbl
    unfold ndC at hsrc hownA HBL
    clear hs17 TT HI0 hI hG2 hbl
    gi_wp2_with (first | (refine wpListIn_load_row (fun _ => trivial) rfl 88 (.tmp 7) rfl bl rfl 88 _ (0, 0) _ HBL.out Tryz.underlying88 rfl sizeNd ?_) | (gi_at_builtin; refine wpListIn_append_src (fun _ => trivial) rfl (.tmp 14) (.tmp 16) 22 22 rfl W1.heap.size 88 i0 (.agg zeroNd) 17 168 Tryz.underlying22 hi hz0 hz1' hz2 rfl (by decide) _ pre.length _ rfl hownA _ 1 _ rfl hsrc ?c1 ?c2 ?c3 ?_))
    case c1 => unfold maxLen at *; omega
    case c2 => omega
    case c3 => first | omega | (simp; omega)
    intro v' w5 hown5 hg5 _ ho5
    rw [show [Value.string n.path, .slice da n.data.length dc, .slice aa n.acl.length ac, .int .i64 n.owner, .int .i64 n.czxid, .int .i64 n.mzxid, .int .i64 n.pzxid, .int .i64 n.azxid, .int .i64 n.qzxid, .int .i64 n.ctime, .int .i64 n.mtime, .int .i32 n.version, .int .i32 n.creates, .int .i32 n.aversion, .bool n.has, .int .i64 n.count, .int .i64 n.bytes] = (ndC n (.slice da n.data.length dc) (.slice aa n.acl.length ac)).toList from rfl] at hown5
    obtain ⟨hI6, hR6, hK6, hbo5⟩ := allI_step HI.out (by omega) (by omega) (by omega) (by omega) HG.out hown5 hg5 ho5
    obtain ⟨la, lc, rfl, _⟩ := ownsRow_from hown5
    have hv6 : (w5.setRow (w.heap.size + 1) #[.slice la (pre.length + 1) lc]).cell? ⟨w.heap.size + 1, 0, none⟩ = some (.slice la (pre.length + 1) lc) := cell_of_row _ _ _ _ _ _ hI6.box
    have hm6 : (w5.setRow (w.heap.size + 1) #[.slice la (pre.length + 1) lc]).cell? ⟨w.heap.size, 0, none⟩ = some (.int .i64 most) := cell_of_row _ _ _ _ _ _ hI6.lim
    obtain ⟨W6, hW6⟩ : ∃ W6, W6 = w5.setRow (w.heap.size + 1) #[.slice la (pre.length + 1) lc] := ⟨_, rfl⟩
    rw [← hW6] at hv6 hm6 hI6 hR6 hK6
    have HW6 := Lib.hid hW6
    have HB5 := Lib.hid hbo5
    have HI6 := Lib.hid hI6
    have HR6 := Lib.hid hR6
    have HK6 := Lib.hid hK6
    clear hW6 hbo5 hI6 hR6 hK6 hown5 hg5 ho5 hsrc hownA hv
    refine wpListIn_skipped (fun _ => trivial) rfl (fun c h => by cases h) (run_store_one 22 (.tmp 5) (.tmp 17) rfl (w.heap.size + 1) (.slice la (pre.length + 1) lc) rfl rfl rfl 22 v HB5.out infoSl) ?_
    rw [← HW6.out]
    gi_wp2
    · exact ⟨HR6.out, rfl, _, _, HI6.out, by simp; omega⟩
    · exact ⟨HR6.out, HK6.out, _, _, HI6.out, by simp; omega⟩
  case done =>
    rintro D xs W hD hS ⟨vs, v, hI, hl⟩ hK
    have hv : W.cell? ⟨w.heap.size + 1, 0, none⟩ = some v := cell_of_row _ _ _ _ _ _ hI.box
    have hfin := allOut_of (allI_turn hI (Turn.putObj (.deferred none) hD hK rfl) (by omega) (by omega)).1 (by omega) hS
    rw [← List.take_of_length_le (l := nodesOf M (M.map (·.1))) (i := most + 1) (by rw [← hS]; simp; omega)] at hfin
    have HFIN := Lib.hid hfin
    have HK := Lib.hid hK
    clear hfin hK hI hS TT HI0
    gi_wp2
    refine ⟨by simp, .inl ⟨_, _, rfl, run_takeDeferred HK.out, ?_⟩⟩
    refine ⟨_, results_tmp rfl _ _ _, ?_⟩
    exact HFIN.out
  case stop =>
    rintro D c pre W hD ⟨rest, hS⟩ ⟨rfl, vs, v, hI, hl⟩ hK
    have hv : W.cell? ⟨w.heap.size + 1, 0, none⟩ = some v := cell_of_row _ _ _ _ _ _ hI.box
    have hfin := allOut_of (allI_turn hI (Turn.putObj (.deferred none) hD hK rfl) (by omega) (by omega)).1 (by omega) (ns := (nodesOf M (M.map (·.1))).take (most + 1)) (by rw [← hS, List.take_append_of_le_length (by simp [hl]), List.take_of_length_le (by simp [hl])])
    have HFIN := Lib.hid hfin
    have HK := Lib.hid hK
    clear hfin hK hI hS TT HI0
    gi_wp2
    refine ⟨by simp, .inl ⟨_, _, rfl, run_takeDeferred HK.out, ?_⟩⟩
    refine ⟨_, results_tmp rfl _ _ _, ?_⟩
    exact HFIN.out
end Go.Proofs.YtclekhjnnljjlaaGreatDoor
namespace Go.Proofs.YtclekhjnnljjlaaGreatDoor
open Go.RowKit
set_option maxHeartbeats 2000000
set_option maxRecDepth 100000

theorem tcount_any (S : Nat → Prop) (w : World) (bt : Nat) (M : List (Key × Nd)) (N : Nat) (hT : TreeAt S w bt M N) : Calls Tryz.prog 13 #[.pointer (some ⟨bt, 0, none⟩)] w fun e w' => e = .returned (.int .i64 M.length) ∧ w = w' := by
  obtain ⟨bn, bk, K, hd, hNd, hKd⟩ := hT
  obtain ⟨m, hm, hr⟩ := hNd.ex
  have hx := TreeAt.box hd
  have hlen := fun ty => hm.len (e := 88) Tryz.underlying92 ty
  have HL := Lib.hid hr.length
  unfold Box treeC at hx
  clear hm hr hd hNd hKd
  go_enter Tryz.func13, Tryz.ntmps13
  go_wp2
  go_ret
  exact ⟨by rw [HL.out]; rfl, rfl⟩
end Go.Proofs.YtclekhjnnljjlaaGreatDoor
namespace Go.Proofs.YtclekhjnnljjlaaGreatDoor
open Go.RowKit Go.Sort
set_option maxHeartbeats 2000000
set_option maxRecDepth 100000

/-- A tree of the walk's own blocks. -/
def Own (B : Nat) (w : World) (bt : Nat) (M : List (Key × Nd)) (N : Nat) : Prop := TreeAt (fun k => B ≤ k ∧ k < w.heap.size) w bt M N
theorem Own.ext {B : Nat} {w w' : World} {bt : Nat} {M : List (Key × Nd)} {N : Nat} (h : Own B w bt M N) (he : Ext w w') : Own B w' bt M N :=
  (TreeAt.ext h he).keep (fun _ _ => rfl) (fun _ hk => ⟨hk.1, Nat.lt_of_lt_of_le hk.2 he.size⟩) (fun _ hk => hk.2) (Nat.le_refl _)

end Go.Proofs.YtclekhjnnljjlaaGreatDoor
namespace Go.Proofs.YtclekhjnnljjlaaGreatDoor
open Go.RowKit Go.Sort
set_option maxHeartbeats 2000000
set_option maxRecDepth 100000

section
variable {P : Program} {ops : Array Oper} {Q : Exit → Act → World → Prop} {Φ : Nat → Value → World → Prop} {a0 : Act} {w0 : World}
theorem duties_rel : ∀ (l : List Oper) (k : Nat), Duties P ops Q Φ a0 w0 k l → DutiesR Ext P ops Q Φ a0 w0 k l
  | [], _, _ => trivial
  | _ :: l, k, h => ⟨h.1, duties_rel l (k + 1) h.2⟩
theorem Ahead.val {vals : List Value} {o p : Oper} {a : Act} {w : World} (h : Ahead ops (fun i v _ => vals[i]? = some v) o a w) (j : Nat) (d : Tmp) (hp : ops[j]? = some p) (hd : p.dst = some d) (he : ∃ e ∈ o.after.toList, e.on = j ∧ Region.binds .any e = true) {v : Value} (hv : vals[j]? = some v) : a.eval (.tmp d) = v :=
  Option.some.inj ((h.slot j d hp hd he).symm.trans hv)
/-- A region that draws its order, each of whose operations has one value to give. -/
theorem region_vals (m : Nat) (vals : List Value) (hlen : vals.length = ops.toList.length) (hchk : (dstsOk ops && aheadB ops && (ops.toList.all fun o => o.dst.any fun d => decide (d < m))) = true) (hsz : a0.tmps.size = m)
    (hd : Duties P ops Q (fun i v _ => vals[i]? = some v) a0 w0 0 ops.toList)
    (hend : ∀ w, Ext w0 w → Q .normal (filled ops.toList vals a0) w) : RegionP P ops Q a0 w0 := by
  have hall := hchk
  simp only [Bool.and_eq_true] at hall
  refine region_rel_e m Ext Ext.refl (fun _ _ _ => Ext.trans) Ext.drew (fun i v _ => vals[i]? = some v) (fun _ _ _ _ h _ => h) (fun i v w h ho => ?_) ?_ hsz (duties_rel _ _ hd) fun us w hE hl hP => ?_
  · exfalso
    cases hoi : ops[i]? with
    | none => rw [hoi] at ho; cases ho
    | some o =>
      rw [hoi] at ho
      have := List.all_eq_true.1 hall.2 o (List.mem_of_getElem? (i := i) (by simpa using hoi))
      cases hd : o.dst with
      | none => rw [hd] at this; cases this
      | some d => simp [hd] at ho
  · simp only [Bool.and_eq_true]
    refine ⟨hall.1, List.all_eq_true.2 fun o ho => ?_⟩
    have := List.all_eq_true.1 hall.2 o ho
    cases hd : o.dst with
    | none => rfl
    | some d => rw [hd] at this; simpa using this
  · have : us = vals := List.ext_getElem? fun i => by
      by_cases hi : i < us.length
      · rw [hP i us[i] (List.getElem?_eq_getElem hi), List.getElem?_eq_getElem hi]
      · rw [List.getElem?_eq_none (by omega), List.getElem?_eq_none (by omega)]
    rw [this]
    exact hend w hE
end
end Go.Proofs.YtclekhjnnljjlaaGreatDoor
namespace Go.Proofs.YtclekhjnnljjlaaGreatDoor
open Go.RowKit
set_option maxHeartbeats 1000000

theorem before_asymm : ∀ {a b : List UInt8}, bytesBefore a b = true → bytesBefore b a = true → False
  | [], [], h, _ => by simp [bytesBefore] at h
  | [], _ :: _, _, h => by simp [bytesBefore] at h
  | _ :: _, [], h, _ => by simp [bytesBefore] at h
  | x :: a, y :: b, h, k => by
    simp only [bytesBefore, Bool.or_eq_true, Bool.and_eq_true, decide_eq_true_eq, beq_iff_eq] at h k
    rcases h with h | ⟨rfl, h⟩
    · rcases k with k | ⟨rfl, k⟩
      · exact absurd h (UInt8.lt_asymm k)
      · exact absurd h (UInt8.lt_irrefl _)
    · rcases k with k | ⟨_, k⟩
      · exact absurd k (UInt8.lt_irrefl _)
      · exact before_asymm h k

theorem MOk.take {M : List (Key × Nd)} (h : MOk M) (m : Nat) : MOk (M.take m) :=
  ⟨List.Pairwise.sublist (List.take_sublist m M) h.sorted, fun x hx => h.key x (List.mem_of_mem_take hx), fun x hx => h.right x (List.mem_of_mem_take hx)⟩

theorem fromN_root {L : List Nd} {M : List (Key × Nd)} (h : fromN L = .ok M) : mget M [47] ≠ none := by
  unfold fromN at h
  split at h
  · cases h
  · split at h
    · cases h
    · split at h
      · cases h
      · rename_i h1 _ _ _; cases h; exact h1
end Go.Proofs.YtclekhjnnljjlaaGreatDoor
namespace Go.Proofs.YtclekhjnnljjlaaGreatDoor
open Go.RowKit
set_option maxHeartbeats 400000

theorem fields_of {t : TypeId} {fs : Array Field} (h : Tryz.prog.underlying t = some (.struct fs)) : Tryz.prog.fieldsOf t = fs := by
  unfold Program.fieldsOf; rw [h]
theorem eq_agg (w : World) (d : Nat) (t : TypeId) (fs : Array Field) (xs ys : Array Value) (h : Tryz.prog.underlying t = some (.struct fs)) (hp : Tryz.prog.stoodInHeld t = false) :
    (Op.equalIn (d + 1) t (.agg xs) (.agg ys)).run Tryz.prog w = (Op.eqFields d xs ys fs.toList).run Tryz.prog w := by
  rw [run_equalIn_agg w d t xs ys (by rw [fields_of h]; exact h) hp, fields_of h]

theorem eq_id (w : World) (d : Nat) (a b a' b' : ByteArray) : (Op.equalIn (d + 2) 139 (.agg #[.string a, .string b]) (.agg #[.string a', .string b'])).run Tryz.prog w = .ok (a.toList == a'.toList && b.toList == b'.toList) w := by
  rw [eq_agg w (d + 1) _ _ _ _ Tryz.underlying139 (by kernel_rfl)]
  simp [Op.eqFields, part, go_sem]
  repeat' split
  all_goals simp_all

def eqAc (x y : Ac) : Bool := x.perms == y.perms && (x.scheme.toList == y.scheme.toList && x.id.toList == y.id.toList)
def acV (x : Ac) : Value := .agg #[.int .i32 x.perms, .string x.scheme, .string x.id]
theorem eq_ac (w : World) (d : Nat) (x y : Ac) : (Op.equalIn (d + 3) 146 (acV x) (acV y)).run Tryz.prog w = .ok (eqAc x y) w := by
  unfold acV
  rw [eq_agg w (d + 2) _ _ _ _ Tryz.underlying146 (by kernel_rfl)]
  simp [Op.eqFields, part, go_sem]
  unfold eqAc
  repeat' split
  all_goals simp_all

theorem guard_ac : Tryz.prog.eqGuardType Tryz.prog.depth 146 = false := by kernel_rfl
theorem guard_q : Tryz.prog.eqGuardType Tryz.prog.depth 86 = false := by kernel_rfl
theorem neq_ac (w : World) (x y : Ac) : (binOp .neq 146 (.agg #[.int .i32 x.perms, .string x.scheme, .string x.id]) (.agg #[.int .i32 y.perms, .string y.scheme, .string y.id])).run Tryz.prog w = .ok (.bool (!eqAc x y)) w := by
  rw [run_neq_struct]
  have := eq_ac w 9997 x y
  unfold acV at this
  rw [this]
  rfl
def eqQ (h : Bool) (a b : Int) (h' : Bool) (a' b' : Int) : Bool := h == h' && (a == a' && b == b')
theorem eq_q (w : World) (d : Nat) (h : Bool) (a b : Int) (h' : Bool) (a' b' : Int) : (Op.equalIn (d + 2) 86 (.agg #[.bool h, .int .i64 a, .int .i64 b]) (.agg #[.bool h', .int .i64 a', .int .i64 b'])).run Tryz.prog w = .ok (eqQ h a b h' a' b') w := by
  rw [eq_agg w (d + 1) _ _ _ _ Tryz.underlying86 (by kernel_rfl)]
  simp [Op.eqFields, part, go_sem]
  unfold eqQ
  repeat' split
  all_goals simp_all
theorem neq_q (w : World) (h : Bool) (a b : Int) (h' : Bool) (a' b' : Int) : (binOp .neq 86 (.agg #[.bool h, .int .i64 a, .int .i64 b]) (.agg #[.bool h', .int .i64 a', .int .i64 b'])).run Tryz.prog w = .ok (.bool (!eqQ h a b h' a' b')) w := by
  rw [run_neq_struct, eq_q w 9998]; rfl
theorem eql_q (w : World) (h : Bool) (a b : Int) (h' : Bool) (a' b' : Int) : (binOp .eql 86 (.agg #[.bool h, .int .i64 a, .int .i64 b]) (.agg #[.bool h', .int .i64 a', .int .i64 b'])).run Tryz.prog w = .ok (.bool (eqQ h a b h' a' b')) w := by
  rw [run_eql_struct, eq_q w 9998]; rfl
end Go.Proofs.YtclekhjnnljjlaaGreatDoor
namespace Go.Proofs.YtclekhjnnljjlaaGreatDoor
open Go.RowKit
set_option maxHeartbeats 2000000
set_option maxRecDepth 100000

/-- Are two lists alike. -/
def eqAcs : List Ac → List Ac → Bool
  | [], [] => true
  | x :: xs, y :: ys => eqAc x y && eqAcs xs ys
  | _, _ => false
theorem eqAcs_len : ∀ xs ys, xs.length ≠ ys.length → eqAcs xs ys = false
  | [], [], h => absurd rfl h
  | [], _ :: _, _ => rfl
  | _ :: _, [], _ => rfl
  | x :: xs, y :: ys, h => by simp only [eqAcs]; rw [eqAcs_len xs ys (by simpa using h)]; simp
theorem eqAcs_drop (xs ys : List Ac) (k : Nat) (h : k < xs.length) (h' : k < ys.length) : eqAcs (xs.drop k) (ys.drop k) = (eqAc xs[k] ys[k] && eqAcs (xs.drop (k + 1)) (ys.drop (k + 1))) := by
  rw [List.drop_eq_getElem_cons h, List.drop_eq_getElem_cons h']; rfl

theorem racls_any (a b : Option Addr) (c d : Nat) (xs ys : List Ac) (w : World) (hx : Cells w.heap.size w a (acCs xs)) (hy : Cells w.heap.size w b (acCs ys)) (hm : xs.length ≤ 9223372036854775800) (hm' : ys.length ≤ 9223372036854775800) :
    Calls Tryz.prog 60 #[.slice a xs.length c, .slice b ys.length d] w fun e w' => e = .returned (.bool (eqAcs xs ys)) ∧ Below w.heap.size w w' := by
  by_cases hl : xs.length ≠ ys.length
  · have H1 := Lib.hid (eqAcs_len xs ys hl)
    have hlb : ((xs.length : Int) != ys.length) = true := by simp; omega
    clear hl hx hy
    go_enter Tryz.func60, Tryz.ntmps60
    go_wp2
    go_ret
    exact ⟨by rw [H1.out]; rfl, Below.refl _ _⟩
  have hl : xs.length = ys.length := by omega
  have HL := Lib.hid hl
  have hg := guard_ac
  have hnq := neq_ac
  have hlb : ((xs.length : Int) != ys.length) = false := by simp [hl]
  clear hl
  go_enter Tryz.func60, Tryz.ntmps60
  go_wp2
  go_loopw [5] (fun i wr => ∃ (k n : Nat), k ≤ xs.length ∧ i = .int .i64 k ∧ wr = w.drewN n ∧ Hid (eqAcs xs ys = eqAcs (xs.drop k) (ys.drop k))) (fun i _ => xs.length - (intOf i).toNat)
  case atStart => exact ⟨0, 0, Nat.zero_le _, rfl, rfl, rfl⟩
  case round =>
    obtain ⟨k, n, hk, rfl, rfl, HQ⟩ := hrel
    by_cases hlt : k < xs.length
    · have hlt' : k < ys.length := by have := HL.out; omega
      obtain ⟨b1, o1, rfl, hb1, c0, c1, c2⟩ := acCells hx k hlt
      obtain ⟨b2, o2, rfl, hb2, d0, d1, d2⟩ := acCells hy k hlt'
      have hk1 : (k : Int) < xs.length := by omega
      have hk2 : (k : Int) < ys.length := by omega
      have hk0 : (0 : Int) ≤ k := by omega
      have HD := Lib.hid (eqAcs_drop xs ys k hlt hlt')
      cases he : eqAc xs[k] ys[k]
      · have H1 : Hid (eqAcs xs ys = false) := by unfold Hid; rw [HQ.out, HD.out, he]; rfl
        clear hx hy
        go_wp2
        go_quiet (fail)
        go_wp2
        go_ret
        exact ⟨by rw [H1.out]; rfl, below_drewN (below_drewN (Below.refl _ _) _) _⟩
      · have H1 : Hid (eqAcs xs ys = eqAcs (xs.drop (k + 1)) (ys.drop (k + 1))) := by unfold Hid; rw [HQ.out, HD.out, he]; rfl
        clear hx hy
        go_wp2
        go_quiet (fail)
        go_wp2
        go_roundw
        case rel => exact ⟨k + 1, _, by omega, by go_num, rfl, H1⟩
        case measure => simp [intOf]; omega
    · obtain rfl : k = xs.length := by omega
      have H1 : Hid (eqAcs xs ys = true) := by
        unfold Hid; rw [HQ.out, List.drop_length, HL.out, List.drop_length]; rfl
      clear hx hy
      go_wp2
      go_ret
      exact ⟨by rw [H1.out]; rfl, below_drewN (Below.refl _ _) _⟩

theorem eqAc_self (x : Ac) : eqAc x x = true := by simp [eqAc]
theorem eqAcs_self : ∀ l : List Ac, eqAcs l l = true
  | [] => rfl
  | x :: l => by simp only [eqAcs]; rw [eqAc_self, eqAcs_self l]; rfl

/-- A node and its like are alike. -/
theorem rsame_self (n : Nd) (da aa db ab : Option Addr) (dc ac dd ad : Nat) (w : World) (hf : Fit n) (hD : Cells w.heap.size w da (n.data.map u8v)) (hA : Cells w.heap.size w aa (acCs n.acl)) (hD' : Cells w.heap.size w db (n.data.map u8v)) (hA' : Cells w.heap.size w ab (acCs n.acl)) :
    Calls Tryz.prog 31 #[.agg (ndC n (.slice da n.data.length dc) (.slice aa n.acl.length ac)), .agg (ndC n (.slice db n.data.length dd) (.slice ab n.acl.length ad))] w fun e w' => e = .returned (.bool true) ∧ Below w.heap.size w w' := by
  have hfa := hf.acl
  obtain ⟨W2, hW2⟩ : ∃ W2, W2 = (w.alloc (.cells (ndC n (.slice da n.data.length dc) (.slice aa n.acl.length ac)) 88)).alloc (.cells (ndC n (.slice db n.data.length dd) (.slice ab n.acl.length ad)) 88) := ⟨_, rfl⟩
  have hs2 : W2.heap.size = w.heap.size + 1 + 1 := by rw [hW2]; simp
  have hb2 : Below w.heap.size w W2 := by rw [hW2]; exact ((Below.refl _ _).alloc (Nat.le_refl _) _).alloc (by simp) _
  have hx : Box W2 w.heap.size (ndC n (.slice da n.data.length dc) (.slice aa n.acl.length ac)) := fun j => by rw [hW2]; exact cell_of_row _ _ _ _ _ _ (heap_alloc2_old w _ _)
  have hy : Box W2 (w.heap.size + 1) (ndC n (.slice db n.data.length dd) (.slice ab n.acl.length ad)) := fun j => by rw [hW2]; exact cell_of_row _ _ _ _ _ _ (heap_alloc2_new w _ _)
  have hv1 := conv_string dc (hD.below hb2)
  have hv2 := conv_string dd (hD'.below hb2)
  have CA := racls_any aa ab ac ad n.acl n.acl W2 ((hA.below hb2).mono (by omega)) ((hA'.below hb2).mono (by omega)) (by omega) (by omega)
  rw [eqAcs_self] at CA
  have hgq := guard_q
  have hnq := neq_q
  have hqq : ∀ h a b, eqQ h a b h a b = true := fun h a b => by simp [eqQ]
  rw [hW2] at hv1 hv2 CA
  have CA := Lib.hid CA
  have HW2 := Lib.hid hW2
  unfold ndC at hx hy hv1 hv2 CA HW2 ⊢
  clear hW2 hD hA hD' hA'
  go_enter Tryz.func31, Tryz.ntmps31
  go_wp2_with fail
  refine CA.out.mono ?_
  rintro e w3 ⟨rfl, hb3⟩
  rw [← HW2.out] at hb3
  have hx3 := hx.below hb3 (by omega)
  have hy3 := hy.below hb3 (by omega)
  have hbb := hb2.trans (hb3.mono (by omega))
  unfold Box at hx3 hy3
  clear CA hx hy hv1 hv2 hb3 hb2 HW2
  go_wp2
  go_ret
  exact ⟨rfl, hbb⟩
end Go.Proofs.YtclekhjnnljjlaaGreatDoor
namespace Go.Proofs.YtclekhjnnljjlaaGreatDoor
open Go.RowKit Go.Sort
set_option maxHeartbeats 4000000
set_option maxRecDepth 100000
attribute [local go_sem] Oper.semAt_some

theorem nodesOf_vals {M : List (Key × Nd)} (h : MSorted M) : nodesOf M (M.map (·.1)) = M.map (·.2) := by
  unfold nodesOf
  rw [List.map_map]
  refine List.map_congr_left fun x hx => ?_
  show (mget M x.1).getD zeroN = x.2
  rw [mget_of_mem h (show (x.1, x.2) ∈ M from hx)]
  rfl

theorem NdsAt.ext {w w' : World} {a : Option Addr} {L : List Nd} (h : NdsAt w.heap.size w a L) (hb : Ext w w') : NdsAt w'.heap.size w' a L := fun i n hi => by
  obtain ⟨b, off, v, h1, h2, h3, h4⟩ := h i n hi
  exact ⟨b, off, v, h1, Nat.lt_of_lt_of_le h2 hb.size, (h3.below hb).mono hb.size, fun j u hj => (hb.cell (p := ⟨b, off + i * 17 + j, none⟩) h2).trans (h4 j u hj)⟩

theorem wp_skipped {P : Program} {Q : Exit → Act → World → Prop} {o : Oper} {a : Act} {w w' : World} {K : Act → World → Prop} (h : (execOp a.eval o).run P w = .ok .skip w') (hk : K (a.put o.dst undef) w') : o.wp P a w K Q := by
  unfold Oper.wp
  rw [h]
  exact hk
/-- The first loop's rounds. -/
structure WalkC (S : Nat → Prop) (bt ga N : Nat) (M : List (Key × Nd)) (w W7 : World) (m at' : Nat) (W : World) : Prop where
  one : 1 ≤ m
  le : m ≤ M.length
  tree : TreeAt S W bt (M.take m) N
  box : W.heap[ga]? = some (.cells #[.int .i64 at'] 3 (0, 0))
  cells : ∀ k c e f, W7.heap[k]? = some (.cells c e f) → k ≠ ga → W.heap[k]? = some (.cells c e f)
  size : W7.heap.size ≤ W.heap.size
  keep : Below w.heap.size w W
theorem WalkC.turn {S : Nat → Prop} {bt ga N : Nat} {M : List (Key × Nd)} {w W7 : World} {m p : Nat} {X Y : World} (h : WalkC S bt ga N M w W7 m p X) (hT : Turn W7.heap.size X Y) (hS : ∀ k, S k → k < W7.heap.size) (hw : w.heap.size ≤ W7.heap.size) : WalkC S bt ga N M w W7 m p Y :=
  ⟨h.one, h.le, h.tree.keep (fun k hk => by
      have hlt := h.tree.bound k hk
      rw [hT.same k _ (Array.getElem?_eq_getElem hlt) (.inl (hS k hk)), Array.getElem?_eq_getElem hlt]) (fun _ h => h) (fun k hk => Nat.lt_of_lt_of_le (h.tree.bound k hk) hT.size) (Nat.le_refl _),
    hT.cells h.box, fun k c e f hk hn => hT.cells (h.cells k c e f hk hn), Nat.le_trans h.size hT.size, h.keep.trans (hT.below hw h.keep.size)⟩

theorem ex_load_at {P : Program} {o : Oper} {a : Act} {w : World} {ty : TypeId} {x : Operand} (ho : o.op = .load ty x) (p : Addr) (hx : a.eval x = .pointer (some p)) (cs : Array Value) (hc : ∀ j u, cs[j]? = some u → w.cell? (p.add j) = some u) {d : TypeDesc}
    (hu : P.underlying ty = some d) (hd : oneD d = false) (hi : (P.info? ty).map (·.size) = some cs.size) : (execOp a.eval o).run P w = .ok (.value (.agg cs)) w := by
  unfold execOp
  simp only [ho, hx, Instr.loadAt, Instr.sureAddr, Sem.run_bind, Sem.run_pure, Result.andThen_ok, run_loadVar_at w p ty cs d hc hu hd hi]

/-- What a round's steps keep. -/
structure Kp (B ga : Nat) (W W' : World) : Prop where
  recs : KeepsRec B W W'
  cells : KeepS (fun _ k => k ≠ ga) W W'
theorem Kp.trans {B ga : Nat} {X Y Z : World} (h : Kp B ga X Y) (k : Kp B ga Y Z) : Kp B ga X Z :=
  ⟨h.recs.trans k.recs, Nat.le_trans h.cells.1 k.cells.1, fun i c e f hi hs => k.cells.2 i c e f (h.cells.2 i c e f hi hs).1 hs⟩
theorem Kp.ext {B ga : Nat} {W W' : World} (h : Ext W W') : Kp B ga W W' :=
  ⟨KeepsRec.of_ext h, h.size, fun _ _ _ _ hk hs => ⟨(h.block _ (Array.getElem?_eq_some_iff.1 hk).1).trans hk, hs⟩⟩
theorem Kp.set {B ga : Nat} (W : World) (cs : Array Value) (h : ga < B) : Kp B ga W (W.setRow ga cs) :=
  ⟨⟨by simp, fun k o hB hk _ => (setRow_other _ _ _ _ (by omega)).trans hk⟩, by simp, fun k c e f hk hs => ⟨(setRow_other _ _ _ _ hs).trans hk, hs⟩⟩
theorem Kp.mod {B ga : Nat} {S : Nat → Prop} {W W' : World} (h : Mod S W W') (hS : ∀ k, S k → k < B) : Kp B ga W W' :=
  ⟨⟨h.size, fun k o hB hk _ => h.same k o hk (.inl fun hs => by have := hS k hs; omega)⟩, h.size, fun _ _ _ _ hk hs => ⟨h.cells hk, hs⟩⟩
theorem WalkC.ext {S : Nat → Prop} {bt ga N : Nat} {M : List (Key × Nd)} {w W7 : World} {m p : Nat} {X Y : World} (h : WalkC S bt ga N M w W7 m p X) (hE : Ext X Y) (hS : ∀ k, S k → k < W7.heap.size) (hw : w.heap.size ≤ W7.heap.size) : WalkC S bt ga N M w W7 m p Y :=
  h.turn (Turn.of_ext hE) hS hw
theorem WalkC.cell {S : Nat → Prop} {bt ga N : Nat} {M : List (Key × Nd)} {w W7 : World} {m p : Nat} {X : World} (h : WalkC S bt ga N M w W7 m p X) {b o : Nat} {u : Value} (hu : W7.cell? ⟨b, o, none⟩ = some u) (hb : b ≠ ga) : X.cell? ⟨b, o, none⟩ = some u := by
  obtain ⟨c', e', f', hk'⟩ := cell_cells hu
  rw [World.cell?_of_block ((h.cells b c' e' f' hk' hb).trans hk'.symm)]
  exact hu


end Go.Proofs.YtclekhjnnljjlaaGreatDoor
namespace Go.Proofs.YtclekhjnnljjlaaGreatDoor
open Go.RowKit
set_option maxHeartbeats 2000000

section
variable {P : Program} {o : Oper} {a : Act} {w : World}
theorem run_store_in (ty : TypeId) (x y : Operand) (ho : o.op = .store ty x y) (g k : Nat) (v : Value) (hx : a.eval x = .pointer (some ⟨g, k, none⟩)) (hy : a.eval y = v) (h1 : ∀ u ∈ v.cells.toList, u.oneCell' = true)
    (t : TypeId) (cur : Array Value) (hg : w.heap[g]? = some (.cells cur t (0, 0))) (hk : k + v.cells.size ≤ cur.size) (hi : (P.info? ty).map (·.size) = some v.cells.size) :
    (execOp a.eval o).run P w = .ok .skip (w.setRow g (cur.toList.take k ++ v.cells.toList ++ cur.toList.drop (k + v.cells.toList.length)).toArray) := by
  subst hy
  have hst := run_storeCells_at P g k t (a.eval y).cells.toList 0 cur w hg (by simpa using hk) h1
  simp only [Nat.add_zero] at hst
  cases hq : P.info? ty with
  | none => simp [hq] at hi
  | some i =>
    have hs : i.size = (a.eval y).cells.size := by simpa [hq] using hi
    unfold execOp
    simp only [ho, hx, Instr.storeAt, Instr.sureAddr, Sem.run_bind, Sem.run_pure, Result.andThen_ok]
    simp [storeVar, sizeOf, typeInfo, hq, hs, hst, Result.andThen]

theorem wp_store_in {K : Act → World → Prop} {Q : Exit → Act → World → Prop} (ty : TypeId) (x y : Operand) (g k : Nat) (v : Value) (t : TypeId) (cur cs : Array Value) (hg : w.heap[g]? = some (.cells cur t (0, 0))) (hk : k + v.cells.size ≤ cur.size) (hi : (P.info? ty).map (·.size) = some v.cells.size)
    (hcs : (cur.toList.take k ++ v.cells.toList ++ cur.toList.drop (k + v.cells.toList.length)).toArray = cs) (h1 : ∀ u ∈ v.cells.toList, u.oneCell' = true) (hK : K (a.put o.dst undef) (w.setRow g cs))
    (ho : o.op = .store ty x y) (hx : a.eval x = .pointer (some ⟨g, k, none⟩)) (hy : a.eval y = v) : o.wp P a w K Q :=
  wp_skipped (run_store_in ty x y ho g k v hx hy h1 t cur hg hk hi) (by rw [hcs]; exact hK)

end

/-- All is as it was, but for blocks of a set. -/
structure Chg (S : Nat → Prop) (w w' : World) : Prop where
  os : w'.os = w.os
  tape : w'.tape = w.tape
  output : w'.output = w.output
  size : w.heap.size ≤ w'.heap.size
  same : ∀ k, k < w.heap.size → ¬ S k → w'.heap[k]? = w.heap[k]?
theorem Chg.refl (S : Nat → Prop) (w : World) : Chg S w w := ⟨rfl, rfl, rfl, Nat.le_refl _, fun _ _ _ => rfl⟩
theorem Chg.trans {S S' : Nat → Prop} {a b c : World} (h : Chg S a b) (k : Chg S' b c) (hS : ∀ i, i < a.heap.size → S' i → S i) : Chg S a c :=
  ⟨k.os.trans h.os, k.tape.trans h.tape, k.output.trans h.output, Nat.le_trans h.size k.size, fun i hi hn => (k.same i (Nat.lt_of_lt_of_le hi h.size) fun hs => hn (hS i hi hs)).trans (h.same i hi hn)⟩
theorem Chg.of_ext {S : Nat → Prop} {a b : World} (h : Ext a b) : Chg S a b := ⟨h.os, h.tape, h.output, h.size, fun k hk _ => h.block k hk⟩
theorem Chg.set {S : Nat → Prop} (r : Nat) (w : World) (cs : Array Value) (hr : S r) : Chg S w (w.setRow r cs) := ⟨rfl, rfl, rfl, by simp, fun k _ hn => setRow_other _ _ _ _ fun e => hn (e ▸ hr)⟩
theorem Chg.grown {S : Nat → Prop} {a b : World} {row : Option Nat} (h : a.grownBy b row) (hr : ∀ k, row = some k → k < a.heap.size → S k) : Chg S a b :=
  ⟨h.os, h.tape, h.output, h.size, fun k hk hn => h.block k hk fun e => hn (hr k e.symm hk)⟩
theorem Chg.below {S : Nat → Prop} {B : Nat} {w w' : World} (h : Chg S w w') (hB : ∀ k, S k → B ≤ k) (hs : B ≤ w.heap.size) : Below B w w' :=
  ⟨h.os, h.tape, h.output, h.size, fun k hk => h.same k (by omega) fun hs => by have := hB k hs; omega⟩
theorem Chg.mono {S S' : Nat → Prop} {w w' : World} (h : Chg S w w') (hS : ∀ k, k < w.heap.size → S k → S' k) : Chg S' w w' := ⟨h.os, h.tape, h.output, h.size, fun k hk hn => h.same k hk fun hs => hn (hS k hk hs)⟩
end Go.Proofs.YtclekhjnnljjlaaGreatDoor
namespace Go.Proofs.YtclekhjnnljjlaaGreatDoor
open Go.RowKit
set_option maxHeartbeats 2000000
set_option maxRecDepth 100000

/-- Rows that show nodes, all in blocks of a set. -/
structure RowsOf (S : Nat → Prop) (w : World) (a : Option Addr) (vs : List (Array Value)) (L : List Nd) : Prop where
  len : vs.length = L.length
  cells : CellsS S w a (vs.flatMap Array.toList)
  each : ∀ (j : Nat) (cs : Array Value), vs[j]? = some cs → ∃ n, L[j]? = some n ∧ NdS S w (.agg cs) n

/-- A slice's address: none, or a plain one. -/
def PlainA (a : Option Addr) (cap : Nat) : Prop := (a = none ∧ cap = 0) ∨ ∃ b off, a = some ⟨b, off, none⟩

theorem RowsOf.imp {S S' : Nat → Prop} {w w' : World} {a : Option Addr} {vs : List (Array Value)} {L : List Nd} (h : RowsOf S w a vs L) (hS : ∀ b, S b → S' b) (hw : ∀ k, S k → w'.heap[k]? = w.heap[k]?) : RowsOf S' w' a vs L :=
  ⟨h.len, h.cells.imp hS fun b o u hb hu => (World.cell?_of_block (hw b hb)).trans hu, fun j cs hj => by
    obtain ⟨n, hn, hN⟩ := h.each j cs hj
    exact ⟨n, hn, NdS.imp hN hS fun b o u hb hu => (World.cell?_of_block (hw b hb)).trans hu⟩⟩
theorem RowsOf.v17 {S : Nat → Prop} {w : World} {a : Option Addr} {vs : List (Array Value)} {L : List Nd} (h : RowsOf S w a vs L) : ∀ x ∈ vs, x.size = 17 := fun x hx => by
  obtain ⟨i, hi, ei⟩ := List.getElem_of_mem hx
  obtain ⟨n2, _, da2, dc2, aa2, ac2, e2, _⟩ := h.each i x (by rw [List.getElem?_eq_getElem hi, ei])
  simp only [Value.agg.injEq] at e2
  rw [e2]; rfl
/-- The j-th row. -/
theorem RowsOf.row {S : Nat → Prop} {w : World} {a : Option Addr} {vs : List (Array Value)} {L : List Nd} (h : RowsOf S w a vs L) {j : Nat} {n : Nd} (hj : L[j]? = some n) :
    ∃ b off da dc aa ac, a = some ⟨b, off, none⟩ ∧ S b ∧ (∀ r u, (ndC n (.slice da n.data.length dc) (.slice aa n.acl.length ac))[r]? = some u → w.cell? ⟨b, off + j * 17 + r, none⟩ = some u) ∧ CellsS S w da (n.data.map u8v) ∧ CellsS S w aa (acCs n.acl) ∧ vs[j]? = some (ndC n (.slice da n.data.length dc) (.slice aa n.acl.length ac)) := by
  have hjl := (List.getElem?_eq_some_iff.1 hj).1
  have hvk : vs[j]? = some (vs[j]'(by rw [h.len]; exact hjl)) := List.getElem?_eq_getElem _
  obtain ⟨n', hn', da, dc, aa, ac, e, hD, hA⟩ := h.each j _ hvk
  obtain rfl : n' = n := by rw [hj] at hn'; exact (Option.some.inj hn').symm
  simp only [Value.agg.injEq] at e
  rw [e] at hvk
  have hfl := flat17 vs j _ h.v17 hvk
  obtain ⟨b, off, rfl, hb, _⟩ := h.cells (j * 17 + 0) _ (hfl 0 (.string n'.path) rfl)
  refine ⟨b, off, da, dc, aa, ac, rfl, hb, fun r u hr => ?_, hD, hA, hvk⟩
  obtain ⟨b', off', e1, _, c1⟩ := h.cells (j * 17 + r) _ (hfl r u hr)
  simp only [Option.some.injEq, Addr.mk.injEq, and_true] at e1
  obtain ⟨rfl, rfl⟩ := e1
  rw [Nat.add_assoc]; exact c1

theorem infoNd17 : (Tryz.prog.info? 88).map (·.size) = some 17 := by kernel_rfl
theorem run_slice_to (a : Option Addr) (len cap i : Nat) (ha : ∀ p, a = some p → ∃ b off, p = ⟨b, off, none⟩) (hi : i ≤ cap) (W : World) : (Instr.slice 22 (.slice a len cap) none (some (.int .i64 i)) none).run Tryz.prog W = .ok (.slice a i cap) W := by
  have h1 : (0 : Int) ≤ i := by omega
  have h2 : (i : Int) ≤ cap := by omega
  obtain ⟨inf, hinf, hs⟩ := Option.map_eq_some_iff.1 infoNd17
  have hm : (if cap = 0 then a else a.map fun x => x.add 0) = a := by
    split
    · rfl
    · cases a with
      | none => rfl
      | some p =>
        obtain ⟨b, off, rfl⟩ := ha p rfl
        simp [Addr.add]
  simp [Instr.slice, Instr.sliceBounds, Instr.sliceBound, run_underlying Tryz.underlying22, asIntOf, Int.toNat_natCast, h1, h2, hi, sizeOf, typeInfo, hinf, hm, Sem.run, Result.andThen]
theorem run_slice_from (b off len cap i : Nat) (hi : i ≤ len) (hl : len ≤ cap) (W : World) : (Instr.slice 22 (.slice (some ⟨b, off, none⟩) len cap) (some (.int .i64 i)) none none).run Tryz.prog W = .ok (.slice (some (if cap = i then ⟨b, off, none⟩ else ⟨b, off + i * 17, none⟩)) (len - i) (cap - i)) W := by
  have h1 : (0 : Int) ≤ i := by omega
  have h2 : (i : Int) ≤ len := by omega
  obtain ⟨inf, hinf, hs⟩ := Option.map_eq_some_iff.1 infoNd17
  by_cases h0 : i = 0
  · subst h0
    by_cases hc : cap = 0 <;>
    simp [Instr.slice, Instr.sliceBounds, Instr.sliceBound, run_underlying Tryz.underlying22, asIntOf, sizeOf, typeInfo, hinf, hs, hc, Sem.run, Result.andThen, Addr.add]
  have h3 : ¬ i * 17 = 0 := by omega
  by_cases hc : cap = i <;>
  simp [Instr.slice, Instr.sliceBounds, Instr.sliceBound, run_underlying Tryz.underlying22, asIntOf, Int.toNat_natCast, h1, h2, hi, h0, h3, sizeOf, typeInfo, hinf, hs, hc, Sem.run, Result.andThen, Addr.add]
theorem run_slice_nil (W : World) : (Instr.slice 22 (.slice none 0 0) (some (.int .i64 0)) none none).run Tryz.prog W = .ok (.slice none 0 0) W := by
  obtain ⟨inf, hinf, hs⟩ := Option.map_eq_some_iff.1 infoNd17
  simp [Instr.slice, Instr.sliceBounds, Instr.sliceBound, run_underlying Tryz.underlying22, asIntOf, sizeOf, typeInfo, hinf, Sem.run, Result.andThen]

/-- A row of the call's own that shows nodes. -/
theorem RowsOf.of_own {S : Nat → Prop} {w : World} {base n : Nat} {v : Value} {vs : List (Array Value)} {L : List Nd} (h : w.ownsRow base 88 17 v n (vs.flatMap Array.toList)) (hn : n = L.length) (hl : vs.length = L.length) (hS : ∀ k, base ≤ k → k < w.heap.size → S k)
    (he : ∀ (j : Nat) (cs : Array Value), vs[j]? = some cs → ∃ n, L[j]? = some n ∧ NdS S w (.agg cs) n) : ∃ a c, v = .slice a n c ∧ n ≤ c ∧ c ≤ maxLen ∧ RowsOf S w a vs L ∧ PlainA a c := by
  rcases h.2 with ⟨rfl, h0⟩ | ⟨g, cap, cur, rfl, hb, hg, h1, h2, h3, h4⟩
  · have hL : L = [] := List.eq_nil_of_length_eq_zero (by omega)
    have hv : vs = [] := List.eq_nil_of_length_eq_zero (by rw [hl, hL]; rfl)
    subst h0 hL hv
    exact ⟨none, 0, rfl, Nat.le_refl _, Nat.zero_le _, ⟨rfl, fun j u hj => by simp at hj, he⟩, .inl ⟨rfl, rfl⟩⟩
  · refine ⟨some ⟨g, 0, none⟩, cap, rfl, h1, h2, ⟨hl, fun j u hj => ?_, he⟩, .inr ⟨g, 0, rfl⟩⟩
    have hc := h.cells (g := g) rfl j u hj
    rw [addr_add] at hc
    exact ⟨g, 0, rfl, hS g hb (Array.getElem?_eq_some_iff.1 hg).1, hc⟩

theorem flat_take (vs : List (Array Value)) (i : Nat) (h17 : ∀ x ∈ vs, x.size = 17) : (vs.flatMap Array.toList).take (i * 17) = (vs.take i).flatMap Array.toList := by
  induction vs generalizing i with
  | nil => simp
  | cons x vs ih =>
    cases i with
    | zero => simp
    | succ i =>
      have hx : x.toList.length = 17 := by simpa using h17 x (List.mem_cons_self ..)
      rw [List.take_succ_cons, List.flatMap_cons, List.flatMap_cons, ← ih i fun y hy => h17 y (List.mem_cons_of_mem _ hy), List.take_append, List.take_of_length_le (by omega), hx, show (i + 1) * 17 - 17 = i * 17 by omega]
theorem flat_drop (vs : List (Array Value)) (i : Nat) (h17 : ∀ x ∈ vs, x.size = 17) : (vs.flatMap Array.toList).drop (i * 17) = (vs.drop i).flatMap Array.toList := by
  induction vs generalizing i with
  | nil => simp
  | cons x vs ih =>
    cases i with
    | zero => simp
    | succ i =>
      have hx : x.toList.length = 17 := by simpa using h17 x (List.mem_cons_self ..)
      rw [List.drop_succ_cons, List.flatMap_cons, ← ih i fun y hy => h17 y (List.mem_cons_of_mem _ hy), List.drop_append, List.drop_eq_nil_of_le (by omega), hx, show (i + 1) * 17 - 17 = i * 17 by omega, List.nil_append]
theorem flat_len (vs : List (Array Value)) (h17 : ∀ x ∈ vs, x.size = 17) : (vs.flatMap Array.toList).length = vs.length * 17 := by
  induction vs with
  | nil => rfl
  | cons x vs ih =>
    have hx : x.toList.length = 17 := by simpa using h17 x (List.mem_cons_self ..)
    rw [List.flatMap_cons, List.length_append, hx, ih fun y hy => h17 y (List.mem_cons_of_mem _ hy), List.length_cons]; omega
theorem RowsOf.one {S : Nat → Prop} {w : World} {a : Option Addr} {vs : List (Array Value)} {L : List Nd} (h : RowsOf S w a vs L) : ∀ u ∈ vs.flatMap Array.toList, u.oneCell' = true := fun u hu => by
  obtain ⟨x, hx, hux⟩ := List.mem_flatMap.1 hu
  obtain ⟨i, hi, ei⟩ := List.getElem_of_mem hx
  obtain ⟨n2, _, da2, dc2, aa2, ac2, e2, _⟩ := h.each i x (by rw [List.getElem?_eq_getElem hi, ei])
  simp only [Value.agg.injEq] at e2
  have := cells_node n2 da2 aa2 n2.data.length n2.acl.length dc2 ac2
  rw [← e2, ← Array.all_toList] at this
  exact List.all_eq_true.1 this u hux

/-- What a slice's first places show, and what those behind them. -/
theorem RowsOf.src_to {S : Nat → Prop} {w : World} {a : Option Addr} {vs : List (Array Value)} {L : List Nd} (h : RowsOf S w a vs L) {i cap : Nat} (hi : i ≤ L.length) (hS : ∀ k, S k → k < w.heap.size) : Src Tryz.prog 17 22 (.slice a i cap) i ((vs.take i).flatMap Array.toList) w := by
  have h17 : ∀ x ∈ vs.take i, x.size = 17 := fun x hx => h.v17 x (List.mem_of_mem_take hx)
  have hc : Cells w.heap.size w a ((vs.take i).flatMap Array.toList) := fun j u hj => by
    rw [← flat_take vs i h.v17, List.getElem?_take] at hj
    split at hj
    · obtain ⟨b, off, e, hb, hc⟩ := h.cells j u hj
      exact ⟨b, off, e, hS b hb, hc⟩
    · cases hj
  exact hc.src Tryz.underlying22 i cap (by rw [flat_len _ h17, List.length_take, h.len]; congr 1; omega) fun u hu => h.one u (by
    rw [← flat_take vs i h.v17] at hu
    exact List.mem_of_mem_take hu)
theorem RowsOf.src_from {S : Nat → Prop} {w : World} {b off : Nat} {vs : List (Array Value)} {L : List Nd} (h : RowsOf S w (some ⟨b, off, none⟩) vs L) {i cap : Nat} (hi : i ≤ L.length) (hl : L.length ≤ cap) (hS : ∀ k, S k → k < w.heap.size) : Src Tryz.prog 17 22 (.slice (some (if cap = i then ⟨b, off, none⟩ else ⟨b, off + i * 17, none⟩)) (L.length - i) (cap - i)) (L.length - i) ((vs.drop i).flatMap Array.toList) w := by
  have h17 : ∀ x ∈ vs.drop i, x.size = 17 := fun x hx => h.v17 x (List.mem_of_mem_drop hx)
  have hc : Cells w.heap.size w (some (if cap = i then ⟨b, off, none⟩ else ⟨b, off + i * 17, none⟩)) ((vs.drop i).flatMap Array.toList) := fun j u hj => by
    rw [← flat_drop vs i h.v17, List.getElem?_drop] at hj
    obtain ⟨b', off', e, hb, hc⟩ := h.cells (i * 17 + j) u hj
    simp only [Option.some.injEq, Addr.mk.injEq, and_true] at e
    obtain ⟨rfl, rfl⟩ := e
    by_cases hci : cap = i
    · exfalso
      have h1 := (List.getElem?_eq_some_iff.1 hj).1
      rw [flat_len _ h.v17, h.len] at h1
      omega
    · rw [if_neg hci]
      exact ⟨b, off + i * 17, rfl, hS b hb, by rw [Nat.add_assoc]; exact hc⟩
  exact hc.src Tryz.underlying22 _ _ (by rw [flat_len _ h17, List.length_drop, h.len]) fun u hu => h.one u (by
    rw [← flat_drop vs i h.v17] at hu
    exact List.mem_of_mem_drop hu)

theorem wpList_store_one {P : Program} {ops : Array Oper} {rest : List Oper} {o : Oper} {a : Act} {Q : Exit → Act → World → Prop} {w : World} (hgd : o.guard = none) (ty : TypeId) (x y : Operand) (ho : o.op = .store ty x y)
    (g : Nat) (v : Value) (hx : a.eval x = .pointer (some ⟨g, 0, none⟩)) (hy : a.eval y = v) (h1 : v.oneCell' = true) (t : TypeId) (old : Value) (hg : w.heap[g]? = some (.cells #[old] t (0, 0))) (hi : (P.info? ty).map (·.size) = some 1)
    (hK : wpList P ops Q rest (a.put o.dst undef) (w.setRow g #[v])) : wpList P ops Q (o :: rest) a w :=
  wpList_plain hgd fun _ hK' => wp_skipped (run_store_one ty x y ho g v hx hy h1 t old hg hi) (hK' _ _ hK)

def EachN (S : Nat → Prop) (w : World) (vs : List (Array Value)) (L : List Nd) : Prop := vs.length = L.length ∧ ∀ (j : Nat) (cs : Array Value), vs[j]? = some cs → ∃ n, L[j]? = some n ∧ NdS S w (.agg cs) n
theorem EachN.append {S : Nat → Prop} {w : World} {vs vs' : List (Array Value)} {L L' : List Nd} (h : EachN S w vs L) (k : EachN S w vs' L') : EachN S w (vs ++ vs') (L ++ L') := by
  refine ⟨by rw [List.length_append, List.length_append, h.1, k.1], fun j cs hj => ?_⟩
  by_cases hl : j < vs.length
  · rw [List.getElem?_append_left hl] at hj
    rw [List.getElem?_append_left (by rw [← h.1]; exact hl)]
    exact h.2 j cs hj
  · rw [List.getElem?_append_right (by omega)] at hj
    rw [List.getElem?_append_right (by rw [← h.1]; omega), ← h.1]
    exact k.2 _ cs hj
theorem EachN.take {S : Nat → Prop} {w : World} {vs : List (Array Value)} {L : List Nd} (h : EachN S w vs L) (i : Nat) : EachN S w (vs.take i) (L.take i) := by
  refine ⟨by rw [List.length_take, List.length_take, h.1], fun j cs hj => ?_⟩
  rw [List.getElem?_take] at hj ⊢
  split at hj
  · rename_i hlt; rw [if_pos hlt]; exact h.2 j cs hj
  · cases hj
theorem EachN.drop {S : Nat → Prop} {w : World} {vs : List (Array Value)} {L : List Nd} (h : EachN S w vs L) (i : Nat) : EachN S w (vs.drop i) (L.drop i) := by
  refine ⟨by rw [List.length_drop, List.length_drop, h.1], fun j cs hj => ?_⟩
  rw [List.getElem?_drop] at hj ⊢
  exact h.2 _ cs hj
theorem EachN.one {S : Nat → Prop} {w : World} {cs : Array Value} {n : Nd} (h : NdS S w (.agg cs) n) : EachN S w [cs] [n] := by
  refine ⟨rfl, fun j c hj => ?_⟩
  cases j with
  | zero => simp at hj; subst hj; exact ⟨n, rfl, h⟩
  | succ j => simp at hj
theorem grown_of_ext {a b : World} (h : Ext a b) (row : Option Nat) : a.grownBy b row := ⟨h.os, h.tape, h.output, h.size, fun k hk _ => h.block k hk⟩


/-- As an argument's list of nodes. -/
theorem RowsOf.nds {S : Nat → Prop} {w : World} {a : Option Addr} {vs : List (Array Value)} {L : List Nd} (h : RowsOf S w a vs L) {B : Nat} (hS : ∀ k, S k → k < B) : NdsAt B w a L := fun i n hi => by
  obtain ⟨b, off, da, dc, aa, ac, e, hb, hc, hD, hA, _⟩ := h.row hi
  exact ⟨b, off, _, e, hS b hb, ⟨da, dc, aa, ac, rfl, hD.cells hS, hA.cells hS⟩, hc⟩
end Go.Proofs.YtclekhjnnljjlaaGreatDoor
namespace Go.Proofs.YtclekhjnnljjlaaGreatDoor
open Go.RowKit
set_option maxHeartbeats 1000000

/-- Two texts, byte by byte. -/
def ordL : List UInt8 → List UInt8 → Int
  | [], [] => 0
  | [], _ :: _ => -1
  | _ :: _, [] => 1
  | x :: a, y :: b => if x.toNat < y.toNat then -1 else if y.toNat < x.toNat then 1 else ordL a b
theorem ordL_eq : ∀ a b : List UInt8, ordL a b = if a = b then 0 else if bytesBefore a b = true then -1 else 1
  | [], [] => by simp [ordL]
  | [], y :: b => by simp [ordL, bytesBefore]
  | x :: a, [] => by simp [ordL, bytesBefore]
  | x :: a, y :: b => by
    simp only [ordL, ordL_eq a b, bytesBefore, Bool.or_eq_true, decide_eq_true_eq, Bool.and_eq_true, beq_iff_eq, List.cons.injEq, UInt8.lt_iff_toNat_lt]
    by_cases h1 : x.toNat < y.toNat
    · have hne : x ≠ y := fun e => by rw [e] at h1; omega
      rw [if_pos h1, if_neg (fun h => hne h.1), if_pos (.inl h1)]
    · by_cases h2 : y.toNat < x.toNat
      · have hne : x ≠ y := fun e => by rw [e] at h2; omega
        rw [if_neg h1, if_pos h2, if_neg (fun h => hne h.1), if_neg (fun h => h.elim h1 fun h => hne h.1)]
      · have he : x = y := UInt8.toNat_inj.1 (by omega)
        subst he
        rw [if_neg h1, if_neg h2]
        by_cases h3 : a = b
        · rw [if_pos h3, if_pos ⟨rfl, h3⟩]
        · have e1 : ¬ (x = x ∧ a = b) := fun h => h3 h.2
          rw [if_neg h3, if_neg e1]
          by_cases h4 : bytesBefore a b = true
          · rw [if_pos h4, if_pos (.inr ⟨rfl, h4⟩)]
          · have e2 : ¬ (x.toNat < x.toNat ∨ x = x ∧ bytesBefore a b = true) := fun h => h.elim h1 fun h => h4 h.2
            rw [if_neg h4, if_neg e2]

/-- The nodes alone. -/
def nds (M : List (Key × Nd)) : List Nd := M.map (·.2)
theorem nds_length (M : List (Key × Nd)) : (nds M).length = M.length := List.length_map _
/-- The place of a path; is it there? -/
def rfind : List Nd → ByteArray → Nat × Bool
  | [], _ => (0, false)
  | n :: r, s => if ordL n.path.data.toList s.data.toList = 0 then (0, true) else if 0 < ordL n.path.data.toList s.data.toList then (0, false) else ((rfind r s).1 + 1, (rfind r s).2)
theorem rfind_le : ∀ (L : List Nd) (s : ByteArray), (rfind L s).1 ≤ L.length
  | [], _ => Nat.zero_le _
  | n :: r, s => by
    have := rfind_le r s
    unfold rfind
    split
    · exact Nat.zero_le _
    split
    · exact Nat.zero_le _
    · simp only [List.length_cons]; omega
theorem rfind_there : ∀ {M : List (Key × Nd)}, MSorted M → (∀ x ∈ M, x.1 = keyN x.2) → ∀ s : ByteArray, (rfind (nds M) s).2 = (mget M s.data.toList).isSome
  | [], _, _, _ => rfl
  | y :: r, hs, hk, s => by
    obtain ⟨h1, h2⟩ := List.pairwise_cons.1 hs
    have ih := rfind_there h2 (fun x hx => hk x (List.mem_cons_of_mem _ hx)) s
    have hy : y.1 = y.2.path.data.toList := hk y (List.mem_cons_self ..)
    show (rfind (y.2 :: nds r) s).2 = _
    unfold rfind
    rw [ordL_eq, ← hy]
    by_cases e : y.1 = s.data.toList
    · rw [if_pos e, if_pos rfl]
      have : mget (y :: r) s.data.toList = some y.2 := mget_of_mem hs (by rw [← e]; exact List.mem_cons_self ..)
      rw [this]; rfl
    · have hg : mget (y :: r) s.data.toList = mget r s.data.toList := by
        unfold mget
        rw [List.find?_cons_of_neg (by simpa using e)]
      rw [if_neg e, hg]
      by_cases hb : bytesBefore y.1 s.data.toList = true
      · rw [if_pos hb, if_neg (by decide), if_neg (by decide)]
        exact ih
      · rw [if_neg hb, if_neg (by decide), if_pos (by decide)]
        have hsy : bytesBefore s.data.toList y.1 = true := by
          rcases WideAt.bytes_total _ _ e with h | h
          · exact absurd h hb
          · exact h
        have : mget r s.data.toList = none := mget_none_of fun x hx e' => by
          have := h1 x hx
          rw [e'] at this
          exact before_asymm this hsy
        rw [this]; rfl

theorem mdel_none {M : List (Key × Nd)} {k : Key} (h : ∀ x ∈ M, x.1 ≠ k) : mdel M k = M := by
  unfold mdel
  exact List.filter_eq_self.2 fun x hx => by simpa using h x hx
theorem rfind_ins' : ∀ {M : List (Key × Nd)}, (∀ x ∈ M, x.1 = keyN x.2) → ∀ n : Nd, (∀ x ∈ M, x.1 ≠ keyN n) → nds (mins (keyN n, n) M) = (nds M).take (rfind (nds M) n.path).1 ++ n :: (nds M).drop (rfind (nds M) n.path).1
  | [], _, _, _ => rfl
  | y :: r, hk, n, hn => by
    have ih := rfind_ins' (fun x hx => hk x (List.mem_cons_of_mem _ hx)) n (fun x hx => hn x (List.mem_cons_of_mem _ hx))
    have hy : y.1 = y.2.path.data.toList := hk y (List.mem_cons_self ..)
    have he : ¬ y.1 = n.path.data.toList := hn y (List.mem_cons_self ..)
    show nds (mins (keyN n, n) (y :: r)) = (y.2 :: nds r).take (rfind (y.2 :: nds r) n.path).1 ++ n :: (y.2 :: nds r).drop (rfind (y.2 :: nds r) n.path).1
    unfold rfind mins
    rw [ordL_eq, ← hy, if_neg he]
    by_cases hb : bytesBefore y.1 n.path.data.toList = true
    · have hnb : ¬ bytesBefore (keyN n, n).1 y.1 = true := fun h => before_asymm h hb
      rw [if_pos hb, if_neg hnb, if_neg (show ¬ ((-1 : Int) = 0) by decide), if_neg (show ¬ ((0 : Int) < -1) by decide)]
      simp only [List.take_succ_cons, List.drop_succ_cons, List.cons_append]
      rw [← ih]; rfl
    · have hnb : bytesBefore (keyN n, n).1 y.1 = true := by
        rcases WideAt.bytes_total _ _ he with h | h
        · exact absurd h hb
        · exact h
      rw [if_neg hb, if_pos hnb, if_neg (show ¬ ((1 : Int) = 0) by decide), if_pos (show (0 : Int) < 1 by decide)]
      rfl
theorem rfind_ins {M : List (Key × Nd)} (hM : MOk M) (n : Nd) (hn : mget M (keyN n) = none) : nds (mput M (keyN n) n) = (nds M).take (rfind (nds M) n.path).1 ++ n :: (nds M).drop (rfind (nds M) n.path).1 := by
  have h := mget_none hn
  unfold mput
  rw [mdel_none h]
  exact rfind_ins' hM.key n h
end Go.Proofs.YtclekhjnnljjlaaGreatDoor
namespace Go.Proofs.YtclekhjnnljjlaaGreatDoor
open Go.RowKit Go.Sort
set_option maxHeartbeats 2000000
set_option maxRecDepth 100000

/-- What a clone of the row's nodes may lie in. -/
def NewN (base : Nat) (v : Value) (w : World) (b : Nat) : Prop := base ≤ b ∧ b < w.heap.size ∧ v.ownBlock ≠ some b
def OwnN (base : Nat) (L : List Nd) (v : Value) (w : World) : Prop :=
  ∃ vs : List (Array Value), w.ownsRow base 88 17 v L.length (vs.flatMap Array.toList) ∧ EachN (NewN base v w) w vs L

theorem EachN.imp {S S' : Nat → Prop} {w w' : World} {vs : List (Array Value)} {L : List Nd} (h : EachN S w vs L) (hS : ∀ b, S b → S' b) (hw : ∀ (b o : Nat) u, S b → w.cell? ⟨b, o, none⟩ = some u → w'.cell? ⟨b, o, none⟩ = some u) : EachN S' w' vs L :=
  ⟨h.1, fun j cs hj => by
    obtain ⟨n, hn, hN⟩ := h.2 j cs hj
    exact ⟨n, hn, NdS.imp hN hS fun b o u hb hu => hw b o u hb hu⟩⟩

theorem OwnN.nil (base : Nat) (w : World) : OwnN base [] (.slice none 0 0) w :=
  ⟨[], World.ownsRow_nil _ _ _ _, ⟨rfl, fun j cs h => by simp at h⟩⟩

theorem cell_ext {w w' : World} (h : Ext w w') (b o : Nat) (u : Value) (hu : w.cell? ⟨b, o, none⟩ = some u) : w'.cell? ⟨b, o, none⟩ = some u :=
  (h.cell (p := ⟨b, o, none⟩) (World.block_lt_of_cell? _ _ hu)).trans hu

theorem OwnN.ext {base : Nat} {L : List Nd} {v : Value} {w w' : World} (h : OwnN base L v w) (hE : Ext w w') : OwnN base L v w' := by
  obtain ⟨vs, h1, h2⟩ := h
  exact ⟨vs, h1.kept (grown_of_ext hE none) (Classical.em _), h2.imp (fun b hb => ⟨hb.1, Nat.lt_of_lt_of_le hb.2.1 hE.size, hb.2.2⟩) fun b o u _ hu => cell_ext hE b o u hu⟩

/-- A new node is handed to the row. -/
theorem OwnN.step {base : Nat} {L : List Nd} {v v' : Value} {w w5 : World} {vs : List (Array Value)} {cs : Array Value} {n : Nd} {t : TypeId} (hE : EachN (NewN base v w) w vs L) (hN : NdS (NewN base v w) w (.agg cs) n)
    (hown : w5.ownsRow base 88 17 v' (L.length + 1) (vs.flatMap Array.toList ++ cs.toList)) (hg : (w.alloc (.cells cs t)).grownBy w5 v.ownBlock) (ho : v'.ownBlock = v.ownBlock ∨ v'.ownBlock = some (w.heap.size + 1)) :
    OwnN base (L ++ [n]) v' w5 := by
  have hz := hg.size
  simp only [World.size_alloc] at hz
  have hS : ∀ b, NewN base v w b → NewN base v' w5 b := fun b hb => ⟨hb.1, by have := hb.2.1; omega, fun e => by
    rcases ho with h | h
    · rw [h] at e; exact hb.2.2 e
    · rw [h] at e; cases e; have := hb.2.1; omega⟩
  have hw : ∀ (b o : Nat) u, NewN base v w b → w.cell? ⟨b, o, none⟩ = some u → w5.cell? ⟨b, o, none⟩ = some u := fun b o u hb hu => by
    rw [World.cell?_of_block ((hg.block b (by simp; have := hb.2.1; omega) (fun e => hb.2.2 e.symm)).trans (heap_alloc_old w _ hb.2.1))]
    exact hu
  refine ⟨vs ++ [cs], by simpa using hown, (hE.imp hS hw).append ((EachN.one hN).imp hS hw)⟩

/-- Memory as it was, but the row. -/
theorem OwnN.keep {base : Nat} {v : Value} {w w5 : World} {cs : Array Value} {n : Nat} {xs : List Value} {t : TypeId} {w0 : World} (hE0 : Ext w0 w) (hb : w0.heap.size ≤ base) (hown : w.ownsRow base 88 17 v n xs) (hg : (w.alloc (.cells cs t)).grownBy w5 v.ownBlock) : Ext w0 w5 := by
  refine hE0.trans' ⟨hg.os, hg.tape, hg.output, by have := hg.size; simp at this; omega, fun k hk => ?_⟩
  have hz := hE0.size
  refine (hg.block k (by simp; omega) (fun e => ?_)).trans (heap_alloc_old w _ (by omega))
  have := ownBlock_ge hown k e.symm
  omega

/-- The row as rows that show nodes. -/
theorem OwnN.rows {base : Nat} {L : List Nd} {v : Value} {w : World} (h : OwnN base L v w) : ∃ a c vs, v = .slice a L.length c ∧ L.length ≤ c ∧ c ≤ maxLen ∧ RowsOf (fun k => base ≤ k ∧ k < w.heap.size) w a vs L ∧ PlainA a c := by
  obtain ⟨vs, h1, h2⟩ := h
  obtain ⟨a, c, e, h3, h4, h5, h6⟩ := RowsOf.of_own (S := fun k => base ≤ k ∧ k < w.heap.size) h1 rfl h2.1 (fun k h1 h2 => ⟨h1, h2⟩) (h2.imp (fun b hb => ⟨hb.1, hb.2.1⟩) fun _ _ _ _ h => h).2
  exact ⟨a, c, vs, e, h3, h4, h5, h6⟩

theorem nds_take_succ {M : List (Key × Nd)} {k : Nat} (hk : k < M.length) : nds (M.take (k + 1)) = nds (M.take k) ++ [M[k].2] := by
  unfold nds
  rw [List.take_succ_eq_append_getElem hk, List.map_append]; rfl
end Go.Proofs.YtclekhjnnljjlaaGreatDoor
