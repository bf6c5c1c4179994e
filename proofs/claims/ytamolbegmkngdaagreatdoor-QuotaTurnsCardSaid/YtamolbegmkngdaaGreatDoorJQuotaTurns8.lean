/- The walk of the law's All: a range over a tree's nodes. A range over a tree's nodes: the loop variable in a box of its own. A region that draws its order, whose last operation, a store, comes after all others. A region that draws its order, with one operation that turns memory (an append) ahead of all that follow it in the text. A region that draws its order, its operations turning memory: an invariant that knows which of them are done. A region that draws its order and turns memory: operations without a slot (a store) among them. The walk of the law's own small tree. Plain laws: when two structs are equal, as the model has it. -/
import Derived.Test.YtamolbegmkngdaaGreatDoorJQuotaTurns7
import Derived.Great.BuildSlice
import Derived.Test.YtamolbegmkngdaaGreatDoorJQuotaTurns2
namespace Go.Proofs.YtamolbegmkngdaaGreatDoor
open Go.RowKit Go.Sort
set_option maxHeartbeats 2000000
set_option maxRecDepth 100000
attribute [local go_sem] Oper.semAt_some

theorem infoSl : (Tryz.prog.info? 22).map (·.size) = some 1 := by kernel_rfl

theorem run_store_one {P : Program} {o : Oper} {a : Act} {w : World} (ty : TypeId) (x y : Operand) (ho : o.op = .store ty x y)
    (g : Nat) (v : Value) (hx : a.eval x = .pointer (some ⟨g, 0, none⟩)) (hy : a.eval y = v) (h1 : v.oneCell' = true)
    (t : TypeId) (old : Value) (hg : w.heap[g]? = some (.cells #[old] t (0, 0))) (hi : (P.info? ty).map (·.size) = some 1) : (execOp a.eval o).run P w = .ok .skip (w.setRow g #[v]) := by
  subst hy
  unfold execOp
  simp only [ho, hx, Instr.storeAt, Instr.sureAddr, Sem.run_bind, Sem.run_pure, Result.andThen_ok, run_storeVar_one w g t ty old _ hg hi h1]

/-- All but the box of the list and the list's own row. -/
def SafeO (bo : Nat) (W : World) (k : Nat) : Prop := k ≠ bo ∧ ∃ v, W.cell? ⟨bo, 0, none⟩ = some v ∧ v.ownBlock ≠ some k

/-- The rounds' invariant: what the list holds. -/
structure AllI (B bo bm : Nat) (w : World) (most : Nat) (pre : List (Value × Nd)) (vs : List (Array Value)) (v : Value) (W : World) : Prop where
  vals : pre.map (·.1) = vs.map Value.agg
  box : W.heap[bo]? = some (.cells #[v] 22 (0, 0))
  lim : W.heap[bm]? = some (.cells #[.int .i64 most] 3 (0, 0))
  row : W.ownsRow B 47 17 v pre.length (vs.flatMap Array.toList)
  nds : ∀ x ∈ pre, GS (SafeO bo) x W
  size : B ≤ W.heap.size
  keep : Below w.heap.size w W

theorem ownBlock_lt {w : World} {base e size n : Nat} {v : Value} {xs : List Value} (h : w.ownsRow base e size v n xs) (k : Nat) (hk : v.ownBlock = some k) : ∃ c, w.heap[k]? = some (.cells c e (0, 0)) := by
  rcases h.2 with ⟨rfl, _⟩ | ⟨g, cap, cur, rfl, _, hg, _⟩
  · simp [Value.ownBlock] at hk
  · simp [Value.ownBlock] at hk
    subst hk
    exact ⟨_, hg⟩

theorem row_at {w w' : World} {base e size n : Nat} {v : Value} {xs : List Value} (h : w.ownsRow base e size v n xs) (hk : ∀ g c, v.ownBlock = some g → w.heap[g]? = some (.cells c e (0, 0)) → w'.heap[g]? = some (.cells c e (0, 0))) : w'.ownsRow base e size v n xs := by
  refine ⟨h.1, ?_⟩
  rcases h.2 with h2 | ⟨g, cap, cur, rfl, h1, hg, h3⟩
  · exact .inl h2
  · exact .inr ⟨g, cap, cur, rfl, h1, hk g cur (by simp [Value.ownBlock]) hg, h3⟩

theorem Turn.cells {B : Nat} {X Y : World} (h : Turn B X Y) {k : Nat} {c : Array Value} {e : TypeId} {f : Nat × Nat} (hk : X.heap[k]? = some (.cells c e f)) : Y.heap[k]? = some (.cells c e f) := h.same k _ hk (.inr rfl)
theorem Turn.cell {B : Nat} {X Y : World} (h : Turn B X Y) {a : Addr} {u : Value} (hu : X.cell? a = some u) : Y.cell? a = some u := by
  obtain ⟨c, e, f, hk⟩ := cell_cells hu
  rw [World.cell?_of_block ((h.cells hk).trans hk.symm)]
  exact hu
theorem SafeO.turn {B bo : Nat} {X Y : World} (hT : Turn B X Y) (k : Nat) (h : SafeO bo X k) : SafeO bo Y k := by
  obtain ⟨h1, v, h2, h3⟩ := h
  exact ⟨h1, v, hT.cell h2, h3⟩
theorem gs_turn {B bo : Nat} {x : Value × Nd} {X Y : World} (h : GS (SafeO bo) x X) (hT : Turn B X Y) : GS (SafeO bo) x Y :=
  NdS.imp h (fun b hb => ⟨hb.1.turn hT, Nat.lt_of_lt_of_le hb.2 hT.size⟩) fun _ _ _ _ hu => hT.cell hu
theorem keepS_turn {B bo : Nat} {A X Y Z : World} (h : Turn B A X) (hk : KeepS (SafeO bo) X Y) (h2 : Turn B Y Z) : KeepS (SafeO bo) A Z :=
  ⟨Nat.le_trans h.size (Nat.le_trans hk.1 h2.size), fun k c e f hc hs => by
    obtain ⟨h3, h4⟩ := hk.2 k c e f (h.cells hc) (hs.turn h)
    exact ⟨h2.cells h3, h4.turn h2⟩⟩

theorem allI_turn {B bo bm : Nat} {w : World} {most : Nat} {pre : List (Value × Nd)} {vs : List (Array Value)} {v : Value} {X Y : World} (hI : AllI B bo bm w most pre vs v X) (hT : Turn B X Y) (hbo : bo < B) (hw : w.heap.size ≤ B) :
    AllI B bo bm w most pre vs v Y ∧ (∀ k, SafeO bo X k → SafeO bo Y k) ∧ ∀ k, X.heap.size ≤ k → SafeO bo Y k :=
  ⟨⟨hI.vals, hT.cells hI.box, hT.cells hI.lim, row_at hI.row fun _ _ _ hc => hT.cells hc, fun x hx => gs_turn (hI.nds x hx) hT, Nat.le_trans hI.size hT.size, hI.keep.trans (hT.below hw hI.keep.size)⟩,
    fun k h => h.turn hT, fun k hk => ⟨by have := hI.size; omega, v, hT.cell (cell_of_row _ _ _ _ _ _ hI.box), fun e => by
      obtain ⟨c, hc⟩ := ownBlock_lt hI.row k e
      have := (Array.getElem?_eq_some_iff.1 hc).1
      omega⟩⟩

theorem allI_step {B bo bm : Nat} {w : World} {most : Nat} {pre : List (Value × Nd)} {vs : List (Array Value)} {v : Value} {W w5 : World} {cs : Array Value} {n : Nd} {v' : Value} {T' : TypeId} (hI : AllI B bo bm w most pre vs v W) (hbo : bo < B) (hbm : bm < B) (hne : bm ≠ bo) (hwo : w.heap.size ≤ bo)
    (hx : GS (SafeO bo) (.agg cs, n) W) (hown : w5.ownsRow B 47 17 v' (pre.length + 1) (vs.flatMap Array.toList ++ cs.toList)) (hg : (W.alloc (.cells cs T')).grownBy w5 v.ownBlock) (ho : v'.ownBlock = v.ownBlock ∨ v'.ownBlock = some (W.heap.size + 1)) :
    AllI B bo bm w most (pre ++ [(.agg cs, n)]) (vs ++ [cs]) v' (w5.setRow bo #[v']) ∧ KeepsRec B W (w5.setRow bo #[v']) ∧ KeepS (SafeO bo) W (w5.setRow bo #[v']) ∧ w5.heap[bo]? = some (.cells #[v] 22 (0, 0)) := by
  have hz := hg.size
  have hsz := hI.size
  simp only [World.size_alloc] at hz
  have hblk : ∀ k o, W.heap[k]? = some o → v.ownBlock ≠ some k → w5.heap[k]? = some o := fun k o hk hn => by
    have hlt := (Array.getElem?_eq_some_iff.1 hk).1
    exact (hg.block k (by simp; omega) (fun e => hn e.symm)).trans ((heap_alloc_old W _ hlt).trans hk)
  have h6 : ∀ k o, k ≠ bo → W.heap[k]? = some o → v.ownBlock ≠ some k → (w5.setRow bo #[v']).heap[k]? = some o := fun k o hk ho hn => (setRow_other _ _ _ _ hk).trans (hblk k o ho hn)
  have hov : ∀ k, k < B → v.ownBlock ≠ some k := fun k hk e => by have := ownBlock_ge hI.row k e; omega
  have hbo5 := hblk bo _ hI.box (hov bo hbo)
  have hbo6 := setRow_heap w5 bo _ #[v'] _ _ hbo5
  have hc6 : (w5.setRow bo #[v']).cell? ⟨bo, 0, none⟩ = some v' := cell_of_row _ _ _ _ _ _ hbo6
  have hcv : W.cell? ⟨bo, 0, none⟩ = some v := cell_of_row _ _ _ _ _ _ hI.box
  have hsafe : ∀ k, k < W.heap.size → SafeO bo W k → SafeO bo (w5.setRow bo #[v']) k := fun k hk hs => ⟨hs.1, v', hc6, fun e => by
    obtain ⟨h1, u, h2, h3⟩ := hs
    rw [hcv] at h2
    cases h2
    rcases ho with h | h
    · exact h3 (h.symm.trans e)
    · rw [h] at e; cases e; omega⟩
  have hnb : ∀ k, SafeO bo W k → v.ownBlock ≠ some k := fun k hs => by
    obtain ⟨h1, u, h2, h3⟩ := hs
    rw [hcv] at h2
    cases h2
    exact h3
  have hgs : ∀ x, GS (SafeO bo) x W → GS (SafeO bo) x (w5.setRow bo #[v']) := fun x h => NdS.imp h (fun b hb => ⟨hsafe b hb.2 hb.1, by have := hb.2; simp; omega⟩) fun b o u hb hu => by
    obtain ⟨c, e, f, hk⟩ := cell_cells hu
    rw [World.cell?_of_block ((h6 b _ hb.1.1 hk (hnb b hb.1)).trans hk.symm)]
    exact hu
  refine ⟨⟨by simp [hI.vals], hbo6, h6 bm _ hne hI.lim (hov bm hbm), ?_, fun x hm => ?_, by simp; omega, ?_⟩, ⟨by simp; omega, fun k o hB hk hr => ?_⟩, ⟨by simp; omega, fun k c e f hk hs => ⟨h6 k _ hs.1 hk (hnb k hs), hsafe k (Array.getElem?_eq_some_iff.1 hk).1 hs⟩⟩, hbo5⟩
  · have := row_at hown (w' := w5.setRow bo #[v']) fun g c hg' hc => (setRow_other _ _ _ _ (fun e => by have := ownBlock_ge hown g hg'; omega)).trans hc
    simpa using this
  · rcases List.mem_append.1 hm with hm | hm
    · exact hgs x (hI.nds x hm)
    · simp at hm; subst hm; exact hgs _ hx
  · refine hI.keep.trans ⟨hg.os, hg.tape, hg.output, by simp; omega, fun k hk => ?_⟩
    have hlt := hI.keep.size
    have hlk : k < W.heap.size := by omega
    exact (h6 k _ (by omega) (Array.getElem?_eq_getElem hlk) (hov k (by omega))).trans (Array.getElem?_eq_getElem hlk).symm
  · refine h6 k o (by omega) hk fun e => ?_
    obtain ⟨c, hc⟩ := ownBlock_lt hI.row k e
    rw [hk] at hc
    cases hc
    cases hr

/-- What All hands back: rows that show the nodes. -/
def AllOut (ns : List Nd) (w : World) (e : Ending) (w' : World) : Prop :=
  ∃ (v : Value) (vs : List (Array Value)), e = .returned v ∧ vs.length = ns.length ∧ w'.ownsRow w.heap.size 47 17 v ns.length (vs.flatMap Array.toList) ∧ (∀ (j : Nat) (cs : Array Value), vs[j]? = some cs → ∃ n, ns[j]? = some n ∧ NdS (· < w'.heap.size) w' (.agg cs) n) ∧ Below w.heap.size w w'

theorem allOut_of {B bo bm : Nat} {w : World} {most : Nat} {pre : List (Value × Nd)} {vs : List (Array Value)} {v : Value} {W : World} (hI : AllI B bo bm w most pre vs v W) (hw : w.heap.size ≤ B) {ns : List Nd} (hn : pre.map (·.2) = ns) : AllOut ns w (.returned v) W := by
  subst hn
  have hl : vs.length = pre.length := by simpa using (congrArg List.length hI.vals).symm
  refine ⟨v, vs, rfl, by simp [hl], by simpa using ownsRow_base_a hI.row hw, fun j cs hj => ?_, hI.keep⟩
  have hjl := (List.getElem?_eq_some_iff.1 hj).1
  have hjp : j < pre.length := by omega
  refine ⟨pre[j].2, by simp [hjp], ?_⟩
  have h1 : pre[j].1 = .agg cs := by
    have := congrArg (·[j]?) hI.vals
    simpa [hjp, hj] using this
  have := hI.nds pre[j] (List.getElem_mem hjp)
  unfold GS at this
  rw [h1] at this
  exact this.imp (fun b hb => hb.2) fun _ _ _ _ h => h

theorem told_not_nil (c : Array Value) (W : World) : (binOp .eql 101 (.func (.func 159) #[] c) .nilFunc).run Tryz.prog W = .ok (.bool false) W := by kernel_rfl

def AllR (bo bm B : Nat) (w : World) (most : Nat) (pre : List (Value × Nd)) (W : World) : Prop := ∃ vs v, AllI B bo bm w most pre vs v W ∧ pre.length ≤ most
def AllX (bo bm B : Nat) (w : World) (most : Nat) (c : Code) (pre : List (Value × Nd)) (W : World) : Prop := c = .exit 0 ∧ ∃ vs v, AllI B bo bm w most pre vs v W ∧ pre.length = most + 1
def AllA (fr : Value → Value → Act) (x : Value × Nd) (a' : Act) (W : World) : Prop := ∃ (bl : Nat) (cs : Array Value), x.1 = .agg cs ∧ W.heap[bl]? = some (.cells cs 47 (0, 0)) ∧ a' = fr (.pointer (some ⟨bl, 0, none⟩)) (.agg cs)

set_option maxHeartbeats 4000000 in
theorem lall_any (S : Nat → Prop) (w : World) (bt : Nat) (M : List (Key × Nd)) (N : Nat) (hT : TreeAt S w bt M N) (most : Nat) (hmost : most < maxLen) (hks : M.length * 168 ≤ 140737488355328) (hkl : ∀ k ∈ M.map (·.1), k.length ≤ maxLen) :
    Calls Tryz.prog 25 #[.pointer (some ⟨bt, 0, none⟩), .int .i64 most] w (AllOut ((nodesOf M (M.map (·.1))).take (most + 1)) w) := by
  have HT := Lib.hid hT
  clear hT
  refine (callsIn_wide (n := 6)).1 (callsIn_of_wp_marks Tryz.func25 rfl trivial ?_)
  simp only [Tryz.ntmps25, List.size_toArray, List.length_cons, List.length_nil, Nat.reduceAdd, Nat.reduceSub, Array.replicate_succ, Array.replicate_zero, List.push_toArray, List.append_toArray, List.nil_append, List.cons_append]
  gi_wp2_with fail
  refine ⟨trivial, (callsIn_wide.2 (tall_any bt _)).mono ?_⟩
  rintro e W1 ⟨bw, btb, rfl, hcw, hct, hE1⟩
  have hbx : ((w.alloc (.cells #[.int .i64 most] 3)).alloc (.cells #[.slice none 0 0] 22)).heap[w.heap.size + 1]? = some (.cells #[.slice none 0 0] 22 (0, 0)) := by
    have := heap_alloc_new (w.alloc (.cells #[.int .i64 most] 3)) (.cells #[.slice none 0 0] 22)
    rwa [World.size_alloc] at this
  have hbm : ((w.alloc (.cells #[.int .i64 most] 3)).alloc (.cells #[.slice none 0 0] 22)).heap[w.heap.size]? = some (.cells #[.int .i64 most] 3 (0, 0)) :=
    (heap_alloc_old _ _ (by simp)).trans (heap_alloc_new w _)
  have hbx1 := (hE1.block _ (Array.getElem?_eq_some_iff.1 hbx).1).trans hbx
  have hbm1 := (hE1.block _ (Array.getElem?_eq_some_iff.1 hbm).1).trans hbm
  have hEw : Ext w W1 := ((Ext.alloc w _).trans (Ext.alloc _ _)).trans hE1
  have hz1 := hE1.size
  simp only [World.size_alloc] at hz1
  have hT1 := HT.out.ext hEw
  have hbd := HT.out.bound
  have hI0 : AllI W1.heap.size (w.heap.size + 1) w.heap.size w most [] [] (.slice none 0 0) W1 :=
    ⟨rfl, hbx1, hbm1, World.ownsRow_nil _ _ _ _, by simp, Nat.le_refl _, hEw⟩
  have hs1 : ∀ k, S k → SafeO (w.heap.size + 1) W1 k := fun k hk => ⟨by have := hbd k hk; omega, _, cell_of_row _ _ _ _ _ _ hbx1, by simp [Value.ownBlock]⟩
  have hOk := hT1.ok
  have TT := told_tells (SafeO (w.heap.size + 1)) S W1 bt M N hT1 hs1 bw btb 122 #[.pointer (some ⟨bt, 0, none⟩)] #[] hcw hct (enters_of Tryz.func122 (by kernel_rfl) rfl) (M.map (·.1))
    (fun W hW => by simpa using tsorted_any S W bt M N (hT1.ext hW) (by omega)) (by simpa using hks) hkl
  have TT := Lib.hid TT
  have hnn := told_not_nil #[.pointer (some ⟨bw, 0, none⟩), .pointer (some ⟨btb, 0, none⟩)] W1
  have HI0 := Lib.hid hI0
  clear hbx hbm hbx1 hbm1 hE1 hT1 hbd hs1 hI0 hcw hct HT hEw
  gi_wp2
  refine wpIn_tells rfl (by omega) (gf := 159) (lb := #[.pointer (some ⟨bw, 0, none⟩), .pointer (some ⟨btb, 0, none⟩)]) rfl trivial (enters_of Tryz.func159 (by kernel_rfl) rfl) TT.out (fun _ => rfl)
    (AllR (w.heap.size + 1) w.heap.size W1.heap.size w most) (AllX (w.heap.size + 1) w.heap.size W1.heap.size w most)
    (AllA fun p c => { tmps := #[.pointer (some ⟨bt, 0, none⟩), .int .i64 most, undef, .pointer (some ⟨w.heap.size, 0, none⟩), .slice none 0 0, .pointer (some ⟨w.heap.size + 1, 0, none⟩), .func (.func 159) #[] #[.pointer (some ⟨bw, 0, none⟩), .pointer (some ⟨btb, 0, none⟩)], p, .pointer (some ⟨bt, 0, none⟩), .func (.func 159) #[] #[.pointer (some ⟨bw, 0, none⟩), .pointer (some ⟨btb, 0, none⟩)], .func (.func 159) #[] #[.pointer (some ⟨bw, 0, none⟩), .pointer (some ⟨btb, 0, none⟩)], .bool false, .func (.func 159) #[] #[.pointer (some ⟨bw, 0, none⟩), .pointer (some ⟨btb, 0, none⟩)], c, undef, undef, undef, undef, undef, undef, undef, undef, undef], defers := [] })
    (fun A X Y B h1 h2 h3 => keepS_turn h1 h2 h3) ?hI ?hIx (fun x X Y h1 h2 => gs_turn h1 h2) ?hAx ⟨[], _, HI0.out, Nat.zero_le _⟩ ?assign ?body ?done ?stop
  case hI =>
    rintro pre X Y ⟨vs, v, h, hl⟩ hT
    obtain ⟨h1, h2, h3⟩ := allI_turn h hT (by omega) (by omega)
    exact ⟨⟨vs, v, h1, hl⟩, h2, h3⟩
  case hIx =>
    rintro c pre X Y ⟨hc, vs, v, h, hl⟩ hT
    exact ⟨hc, vs, v, (allI_turn h hT (by omega) (by omega)).1, hl⟩
  case hAx =>
    rintro x a' X Y ⟨bl, cs, h1, h2, h3⟩ hT
    exact ⟨bl, cs, h1, hT.cells h2, h3⟩
  case assign =>
    rintro l pre ⟨xv, n⟩ W K ⟨vs, v, hI, hl⟩ hG hK
    obtain ⟨da, dc, aa, ac, e, _⟩ := hG
    dsimp only at e
    subst e
    obtain ⟨W2, hW2⟩ : ∃ W2, W2 = W.alloc (.cells (ndC n (.slice da n.data.length dc) (.slice aa n.acl.length ac)) 47) := ⟨_, rfl⟩
    have hax := hK _ W2 (by rw [hW2]; exact Ext.alloc _ _) ⟨W.heap.size, _, rfl, by rw [hW2]; exact heap_alloc_new W _, rfl⟩
    have HSET := Lib.hid ((setRow_alloc W zeroNd (ndC n (.slice da n.data.length dc) (.slice aa n.acl.length ac)) 47).trans hW2.symm)
    have HNew := Lib.hid (heap_alloc_new W (.cells zeroNd 47))
    have HAX := Lib.hid hax
    unfold ndC at HSET HAX ⊢
    unfold zeroNd at HSET HNew
    clear hK hI hW2 hax TT HI0
    gi_wp2_with (refine wpListIn_store_row (fun _ => trivial) rfl 47 (.tmp 7) (.tmp 13) rfl W.heap.size _ rfl rfl 47 _ HNew.out sizeNd rfl (cells_node n da aa _ _ dc ac) ?_; rw [HSET.out])
    exact HAX.out
  case body =>
    rintro l pre ⟨xv, n⟩ a' W hl0 _ ⟨rest, hSp⟩ ⟨vs, v, hI, hl⟩ hG ⟨bl, cs, e, hbl, rfl⟩
    dsimp only at e
    subst e
    have hG2 := hG
    obtain ⟨da, dc, aa, ac, e, _⟩ := hG
    simp only [Value.agg.injEq] at e
    subst e
    have hpl : pre.length + 1 ≤ M.length := by
      have := congrArg List.length hSp
      simp [nodesOf] at this
      omega
    have hv : W.cell? ⟨w.heap.size + 1, 0, none⟩ = some v := cell_of_row _ _ _ _ _ _ hI.box
    have hs17 : Cells (W.alloc (.cells (ndC n (.slice da n.data.length dc) (.slice aa n.acl.length ac)) 47)).heap.size (W.alloc (.cells (ndC n (.slice da n.data.length dc) (.slice aa n.acl.length ac)) 47)) (some ⟨W.heap.size, 0, none⟩) (ndC n (.slice da n.data.length dc) (.slice aa n.acl.length ac)).toList := fun j u hj => by
      refine ⟨_, 0, rfl, by simp, ?_⟩
      rw [Nat.zero_add, cell_of_row _ _ _ _ _ _ (heap_alloc_new W _)]
      simpa using hj
    have hsrc : Src Tryz.prog 17 22 (.slice (some ⟨W.heap.size, 0, none⟩) 1 1) 1 (ndC n (.slice da n.data.length dc) (.slice aa n.acl.length ac)).toList (W.alloc (.cells (ndC n (.slice da n.data.length dc) (.slice aa n.acl.length ac)) 47)) :=
      hs17.src Tryz.underlying22 1 1 (by simp [ndC]) (fun u hu => by
        have := cells_node n da aa n.data.length n.acl.length dc ac
        rw [← Array.all_toList] at this
        exact List.all_eq_true.1 this u hu)
    obtain ⟨i0, hi, hz0, hz1', hz2⟩ := info_parts infoNd
    have hownA := hI.row.alloc (.cells (ndC n (.slice da n.data.length dc) (.slice aa n.acl.length ac)) 47)
    have hszB := hI.size
    have HI := Lib.hid hI
    have HG := Lib.hid hG2
    have HBL := Lib.hid hbl
    unfold ndC at hsrc hownA HBL
    clear hs17 TT HI0 hI hG2 hbl
    gi_wp2_with (first | (refine wpListIn_load_row (fun _ => trivial) rfl 47 (.tmp 7) rfl bl rfl 47 _ (0, 0) _ HBL.out Tryz.underlying47 rfl sizeNd ?_) | (gi_at_builtin; refine wpListIn_append_src (fun _ => trivial) rfl (.tmp 14) (.tmp 16) 22 22 rfl W1.heap.size 47 i0 (.agg zeroNd) 17 168 Tryz.underlying22 hi hz0 hz1' hz2 rfl (by decide) _ pre.length _ rfl hownA _ 1 _ rfl hsrc ?c1 ?c2 ?c3 ?_))
    case c1 => unfold maxLen at *; omega
    case c2 => omega
    case c3 => first | omega | (simp; omega)
    intro v' w5 hown5 hg5 _ ho5
    rw [show [Value.string n.path, .slice da n.data.length dc, .slice aa n.acl.length ac, .int .i64 n.owner, .int .i64 n.czxid, .int .i64 n.mzxid, .int .i64 n.pzxid, .int .i64 n.azxid, .int .i64 n.qzxid, .int .i64 n.ctime, .int .i64 n.mtime, .int .i32 n.version, .int .i32 n.creates, .int .i32 n.aversion, .bool n.has, .int .i64 n.count, .int .i64 n.bytes] = (ndC n (.slice da n.data.length dc) (.slice aa n.acl.length ac)).toList from rfl] at hown5
    obtain ⟨hI6, hR6, hK6, hbo5⟩ := allI_step HI.out (by omega) (by omega) (by omega) (by omega) HG.out hown5 hg5 ho5
    obtain ⟨la, lc, rfl, _⟩ := ownsRow_from hown5
    have hv6 : (w5.setRow (w.heap.size + 1) #[.slice la (pre.length + 1) lc]).cell? ⟨w.heap.size + 1, 0, none⟩ = some (.slice la (pre.length + 1) lc) := cell_of_row _ _ _ _ _ _ hI6.box
    have hm6 : (w5.setRow (w.heap.size + 1) #[.slice la (pre.length + 1) lc]).cell? ⟨w.heap.size, 0, none⟩ = some (.int .i64 most) := cell_of_row _ _ _ _ _ _ hI6.lim
    obtain ⟨W6, hW6⟩ : ∃ W6, W6 = w5.setRow (w.heap.size + 1) #[.slice la (pre.length + 1) lc] := ⟨_, rfl⟩
    rw [← hW6] at hv6 hm6 hI6 hR6 hK6
    have HW6 := Lib.hid hW6
    have HB5 := Lib.hid hbo5
    have HI6 := Lib.hid hI6
    have HR6 := Lib.hid hR6
    have HK6 := Lib.hid hK6
    clear hW6 hbo5 hI6 hR6 hK6 hown5 hg5 ho5 hsrc hownA hv
    refine wpListIn_skipped (fun _ => trivial) rfl (fun c h => by cases h) (run_store_one 22 (.tmp 5) (.tmp 17) rfl (w.heap.size + 1) (.slice la (pre.length + 1) lc) rfl rfl rfl 22 v HB5.out infoSl) ?_
    rw [← HW6.out]
    gi_wp2
    · exact ⟨HR6.out, rfl, _, _, HI6.out, by simp; omega⟩
    · exact ⟨HR6.out, HK6.out, _, _, HI6.out, by simp; omega⟩
  case done =>
    rintro D xs W hD hS ⟨vs, v, hI, hl⟩ hK
    have hv : W.cell? ⟨w.heap.size + 1, 0, none⟩ = some v := cell_of_row _ _ _ _ _ _ hI.box
    have hfin := allOut_of (allI_turn hI (Turn.putObj (.deferred none) hD hK rfl) (by omega) (by omega)).1 (by omega) hS
    rw [← List.take_of_length_le (l := nodesOf M (M.map (·.1))) (i := most + 1) (by rw [← hS]; simp; omega)] at hfin
    have HFIN := Lib.hid hfin
    have HK := Lib.hid hK
    clear hfin hK hI hS TT HI0
    gi_wp2
    refine ⟨by simp, .inl ⟨_, _, rfl, run_takeDeferred HK.out, ?_⟩⟩
    refine ⟨_, results_tmp rfl _ _ _, ?_⟩
    exact HFIN.out
  case stop =>
    rintro D c pre W hD ⟨rest, hS⟩ ⟨rfl, vs, v, hI, hl⟩ hK
    have hv : W.cell? ⟨w.heap.size + 1, 0, none⟩ = some v := cell_of_row _ _ _ _ _ _ hI.box
    have hfin := allOut_of (allI_turn hI (Turn.putObj (.deferred none) hD hK rfl) (by omega) (by omega)).1 (by omega) (ns := (nodesOf M (M.map (·.1))).take (most + 1)) (by rw [← hS, List.take_append_of_le_length (by simp [hl]), List.take_of_length_le (by simp [hl])])
    have HFIN := Lib.hid hfin
    have HK := Lib.hid hK
    clear hfin hK hI hS TT HI0
    gi_wp2
    refine ⟨by simp, .inl ⟨_, _, rfl, run_takeDeferred HK.out, ?_⟩⟩
    refine ⟨_, results_tmp rfl _ _ _, ?_⟩
    exact HFIN.out
end Go.Proofs.YtamolbegmkngdaaGreatDoor
namespace Go.Proofs.YtamolbegmkngdaaGreatDoor
open Go.RowKit Go.Sort
set_option maxHeartbeats 2000000
set_option maxRecDepth 100000

theorem ex_alloc_nd {o : Oper} {a : Act} {w : World} (ho : o.op = .alloc 47) : (execOp a.eval o).run Tryz.prog w = .ok (.value (.pointer (some ⟨w.heap.size, 0, none⟩))) (w.alloc (.cells zeroNd 47)) := by
  have hz : (zeroValue 47).run Tryz.prog w = .ok (.agg zeroNd) w := by kernel_rfl
  simp [execOp, ho, hz, newVar, newRow, go_sem]

theorem put_frame (T : Array Value) (p b : Tmp) (u v : Value) : ({ tmps := T.setIfInBounds p u, defers := [] } : Act).put (some b) v = { tmps := (T.setIfInBounds p u).setIfInBounds b v, defers := [] } := rfl
theorem eval_set_same {T : Array Value} {b : Tmp} {v : Value} (h : b < T.size) : ({ tmps := T.setIfInBounds b v, defers := [] } : Act).eval (.tmp b) = v := by
  simp [Act.eval, h]
theorem eval_set_other {T : Array Value} {b p : Tmp} {u v : Value} (h : p < T.size) (hne : b ≠ p) : ({ tmps := (T.setIfInBounds p u).setIfInBounds b v, defers := [] } : Act).eval (.tmp p) = u := by
  simp [Act.eval, Array.getElem?_setIfInBounds, h, hne]

/-- What the loop's own assignment leaves. -/
def AggA (T : Array Value) (p b : Tmp) (x : Value × Nd) (a' : Act) (W : World) : Prop :=
  ∃ bl da dc aa ac, x.1 = .agg (ndC x.2 (.slice da x.2.data.length dc) (.slice aa x.2.acl.length ac)) ∧ W.heap[bl]? = some (.cells (ndC x.2 (.slice da x.2.data.length dc) (.slice aa x.2.acl.length ac)) 47 (0, 0)) ∧
    a' = { tmps := (T.setIfInBounds p x.1).setIfInBounds b (.pointer (some ⟨bl, 0, none⟩)), defers := [] }

theorem wpIn_tells_nd {n : Nat} {Q : Exit → Act → World → Prop} {a : Act} {w : World} {g : Operand} {body : Code} {gf : Nat} {lb : Array Value} {Safe : World → Nat → Prop} {S Sp : List (Value × Nd) → Prop} {id : Nat} {p b : Tmp} {pos : String} {aft : Array Edge}
    (h1 : 1 ≤ n) (hg : a.eval g = .func (.func gf) #[] lb) (eg : ∀ args w, (callFunc gf args).run Tryz.prog w = .ok (.enter gf args) w)
    (hseq : Tells Fence.wide (n - 1) Tryz.prog gf lb (fun x : Value × Nd => #[x.1]) (GS Safe) (KeepS Safe) Safe S Sp w)
    (hp : p < a.tmps.size) (hb : b < a.tmps.size) (hne : b ≠ p)
    (I : List (Value × Nd) → World → Prop) (Ix : Code → List (Value × Nd) → World → Prop)
    (hSafe : ∀ X Y k, Turn w.heap.size X Y → Safe X k → Safe Y k)
    (hI : ∀ pre X Y, I pre X → Turn w.heap.size X Y → I pre Y ∧ ∀ k, X.heap.size ≤ k → Safe Y k)
    (hIx : ∀ c pre X Y, Ix c pre X → Turn w.heap.size X Y → Ix c pre Y)
    (h0 : I [] w)
    (hbody : ∀ (l : Nat) (pre : List (Value × Nd)) (m : Nd) (da : Option Addr) (dc : Nat) (aa : Option Addr) (ac bl : Nat) (W : World), w.heap.size ≤ l → (∃ r, W.heap[l]? = some (.loop r)) →
      Sp (pre ++ [(.agg (ndC m (.slice da m.data.length dc) (.slice aa m.acl.length ac)), m)]) → I pre W → GS Safe (.agg (ndC m (.slice da m.data.length dc) (.slice aa m.acl.length ac)), m) W →
      W.heap[bl]? = some (.cells (ndC m (.slice da m.data.length dc) (.slice aa m.acl.length ac)) 47 (0, 0)) →
      body.wpIn (Fence.wide.inRound l) (n - 1 - 1) Tryz.prog (tellPost w.heap.size (KeepS Safe) I Ix (pre ++ [(.agg (ndC m (.slice da m.data.length dc) (.slice aa m.acl.length ac)), m)]) W)
        { tmps := (a.tmps.setIfInBounds p (.agg (ndC m (.slice da m.data.length dc) (.slice aa m.acl.length ac)))).setIfInBounds b (.pointer (some ⟨bl, 0, none⟩)), defers := [] } W)
    (hdone : ∀ (D : Nat) (xs : List (Value × Nd)) (W : World), w.heap.size ≤ D → S xs → I xs W → W.heap[D]? = some (.deferred (some [])) → Q .normal { a with defers := { target := .collected D, args := #[] } :: a.defers } W)
    (hstop : ∀ (D : Nat) (c : Code) (pre : List (Value × Nd)) (W : World), w.heap.size ≤ D → Sp pre → Ix c pre W → W.heap[D]? = some (.deferred (some [])) → c.wpIn Fence.wide n Tryz.prog Q { a with defers := { target := .collected D, args := #[] } :: a.defers } W) :
    (Code.rangeFunc g #[p] (Code.region id #[{ dst := some b, op := Op.alloc 47, type := 0, pos := pos, after := #[], guard := none }, { dst := none, op := Op.store 47 (Operand.tmp b) (Operand.tmp p), type := 0, pos := pos, after := aft, guard := none }] false) body).wpIn Fence.wide n Tryz.prog Q a w := by
  refine wpIn_tells rfl h1 hg trivial eg hseq (fun _ => rfl) I Ix (AggA a.tmps p b) ?hKeep ?hI hIx ?hG ?hAx h0 ?assign ?body hdone hstop
  case hKeep =>
    intro A X Y Z h hk h2
    exact ⟨Nat.le_trans h.size (Nat.le_trans hk.1 h2.size), fun k c e f hc hs => by
      obtain ⟨h3, h4⟩ := hk.2 k c e f (h.cells hc) (hSafe _ _ _ h hs)
      exact ⟨h2.cells h3, hSafe _ _ _ h2 h4⟩⟩
  case hI => exact fun pre X Y h hT => ⟨(hI pre X Y h hT).1, fun k hk => hSafe _ _ _ hT hk, (hI pre X Y h hT).2⟩
  case hG => exact fun x X Y h hT => NdS.imp h (fun k hk => ⟨hSafe _ _ _ hT hk.1, Nat.lt_of_lt_of_le hk.2 hT.size⟩) fun _ _ _ _ hu => hT.cell hu
  case hAx =>
    rintro x a' X Y ⟨bl, da, dc, aa, ac, e1, e2, e3⟩ hT
    exact ⟨bl, da, dc, aa, ac, e1, hT.cells e2, e3⟩
  case assign =>
    rintro l pre ⟨xv, m⟩ W K hIp hG hK
    obtain ⟨da, dc, aa, ac, e, _⟩ := hG
    dsimp only at e
    subst e
    have hfr : ∀ v : Value, (#[p].zip #[v]).foldl (fun (t : Array Value) (x : Tmp × Value) => match x with | (p, v) => t.setIfInBounds p v) a.tmps = a.tmps.setIfInBounds p v := fun v => by simp
    refine wpIn_region_list ?_
    rw [hfr]
    show wpListIn _ _ _ _ _ [_, _] { tmps := a.tmps.setIfInBounds p (.agg (ndC m (.slice da m.data.length dc) (.slice aa m.acl.length ac))), defers := [] } W
    refine wpListIn_value (fun _ => trivial) rfl (fun c h => by cases h) (ex_alloc_nd rfl) ?_
    rw [put_frame]
    refine wpListIn_skipped (fun _ => trivial) rfl (fun c h => by cases h) (ex_store_row 47 (.tmp b) (.tmp p) rfl W.heap.size (ndC m (.slice da m.data.length dc) (.slice aa m.acl.length ac)) (eval_set_same (by simpa using hb)) (eval_set_other hp hne) 47 zeroNd (heap_alloc_new W _) sizeNd rfl (cells_node m da aa _ _ dc ac)) ?_
    rw [setRow_alloc]
    refine wpListIn_nil ?_
    refine hK _ _ (Ext.alloc _ _) ⟨W.heap.size, da, dc, aa, ac, rfl, heap_alloc_new W _, rfl⟩
  case body =>
    rintro l pre ⟨xv, m⟩ a' W hl hr hSp hIp hG ⟨bl, da, dc, aa, ac, e1, e2, rfl⟩
    dsimp only at e1
    subst e1
    exact hbody l pre m da dc aa ac bl W hl hr hSp hIp hG e2

section
variable {P : Program} {ops : Array Oper} {Q : Exit → Act → World → Prop} {Φ : Nat → Value → World → Prop} {a0 : Act} {w0 : World}
theorem duties_rel : ∀ (l : List Oper) (k : Nat), Duties P ops Q Φ a0 w0 k l → DutiesR Ext P ops Q Φ a0 w0 k l
  | [], _, _ => trivial
  | _ :: l, k, h => ⟨h.1, duties_rel l (k + 1) h.2⟩
theorem Ahead.val {vals : List Value} {o p : Oper} {a : Act} {w : World} (h : Ahead ops (fun i v _ => vals[i]? = some v) o a w) (j : Nat) (d : Tmp) (hp : ops[j]? = some p) (hd : p.dst = some d) (he : ∃ e ∈ o.after.toList, e.on = j ∧ Region.binds .any e = true) {v : Value} (hv : vals[j]? = some v) : a.eval (.tmp d) = v :=
  Option.some.inj ((h.slot j d hp hd he).symm.trans hv)
/-- A region that draws its order, each of whose operations has one value to give. -/
theorem region_vals (m : Nat) (vals : List Value) (hlen : vals.length = ops.toList.length) (hchk : (dstsOk ops && aheadB ops && (ops.toList.all fun o => o.dst.any fun d => decide (d < m))) = true) (hsz : a0.tmps.size = m)
    (hd : Duties P ops Q (fun i v _ => vals[i]? = some v) a0 w0 0 ops.toList)
    (hend : ∀ w, Ext w0 w → Q .normal (filled ops.toList vals a0) w) : RegionP P ops Q a0 w0 := by
  have hall := hchk
  simp only [Bool.and_eq_true] at hall
  refine region_rel_e m Ext Ext.refl (fun _ _ _ => Ext.trans) Ext.drew (fun i v _ => vals[i]? = some v) (fun _ _ _ _ h _ => h) (fun i v w h ho => ?_) ?_ hsz (duties_rel _ _ hd) fun us w hE hl hP => ?_
  · exfalso
    cases hoi : ops[i]? with
    | none => rw [hoi] at ho; cases ho
    | some o =>
      rw [hoi] at ho
      have := List.all_eq_true.1 hall.2 o (List.mem_of_getElem? (i := i) (by simpa using hoi))
      cases hd : o.dst with
      | none => rw [hd] at this; cases this
      | some d => simp [hd] at ho
  · simp only [Bool.and_eq_true]
    refine ⟨hall.1, List.all_eq_true.2 fun o ho => ?_⟩
    have := List.all_eq_true.1 hall.2 o ho
    cases hd : o.dst with
    | none => rfl
    | some d => rw [hd] at this; simpa using this
  · have : us = vals := List.ext_getElem? fun i => by
      by_cases hi : i < us.length
      · rw [hP i us[i] (List.getElem?_eq_getElem hi), List.getElem?_eq_getElem hi]
      · rw [List.getElem?_eq_none (by omega), List.getElem?_eq_none (by omega)]
    rw [this]
    exact hend w hE
/-- The same, but for the last operation, which all others are ahead of: it may turn what it likes. -/
theorem region_last_vals (m : Nat) (vals : List Value) (k : Nat) (ol : Oper) (hk : ops[k]? = some ol) (hks : ops.size = k + 1) (hlen : vals.length = k) (hg : ol.guard = none)
    (hchk : (dstsOk ops && aheadB ops && coverOk ops && (ops.toList.all fun o => o.dst.any fun d => decide (d < m))) = true) (hsz : a0.tmps.size = m)
    (hd : Duties P ops Q (fun i v _ => vals[i]? = some v) a0 w0 0 (ops.toList.take k))
    (hlast : ∀ a u w, Ext w0 w → a = filled ops.toList (vals ++ [u]) a0 → (∀ i d v, i < k → (ops[i]?.bind (·.dst)) = some d → vals[i]? = some v → a.eval (.tmp d) = v) → ol.wp P a w (fun a' w' => Q .normal a' w') Q) : RegionP P ops Q a0 w0 := by
  have hall := hchk
  simp only [Bool.and_eq_true] at hall
  refine region_last m (fun i v _ => vals[i]? = some v) (fun _ _ _ _ h _ => h) ?_ hsz k ol hk hks hg hd fun a w hE hF hP => ?_
  · simp only [Bool.and_eq_true]
    exact ⟨hall.1, List.all_eq_true.2 fun o ho => List.all_eq_true.1 hall.2 o (List.mem_of_mem_take ho)⟩
  have hin : ∀ o ∈ ops.toList, ∀ d, o.dst = some d → d < a0.tmps.size := fun o ho d hd => by
    have := List.all_eq_true.1 hall.2 o ho
    rw [hd] at this
    rw [hsz]; simpa using this
  have hfr := framed_filled hF ops.toList (fun _ h => h) (fun _ h => .inl h) hin
  have hl' : (ops.toList.map fun o => valOf o a).length = k + 1 := by simpa using hks
  refine hlast a (valOf ol a) w hE ?_ fun i d v hi hd hv => ?_
  · have : (ops.toList.map fun o => valOf o a) = vals ++ [valOf ol a] := List.ext_getElem? fun i => by
      by_cases hi : i < k
      · rw [List.getElem?_append_left (by omega)]
        have ho : ops[i]? = some (ops[i]'(by omega)) := Array.getElem?_eq_getElem (by omega)
        rw [hP i _ hi ho, List.getElem?_map]
        simp [ho]
      · by_cases hi2 : i = k
        · subst hi2
          rw [List.getElem?_append_right (by omega), hlen, Nat.sub_self, List.getElem?_map]
          simp [hk]
        · rw [List.getElem?_eq_none (by omega), List.getElem?_eq_none (by simp; omega)]
    rw [← this]
    exact hfr
  · cases ho : ops[i]? with
    | none => rw [ho] at hd; cases hd
    | some o =>
      rw [ho] at hd
      have := hP i o hi ho
      rw [hv] at this
      have hd' : o.dst = some d := hd
      unfold valOf at this
      rw [hd'] at this
      exact (Option.some.inj this).symm
end
end Go.Proofs.YtamolbegmkngdaaGreatDoor
namespace Go.Proofs.YtamolbegmkngdaaGreatDoor
open Go.RowKit
section
variable {P : Program} {ops : Array Oper} {Q : Exit → Act → World → Prop} {a0 : Act} {w0 : World}
theorem region_store_vals (m : Nat) (vals : List Value) (k : Nat) (ol : Oper) (hk : ops[k]? = some ol) (hks : ops.size = k + 1) (hlen : vals.length = k) (hg : ol.guard = none) (hdn : ol.dst = none)
    (hchk : (dstsOk ops && aheadB ops && coverOk ops && ((ops.toList.take (ops.size - 1)).all fun o => o.dst.any fun d => decide (d < m))) = true) (hsz : a0.tmps.size = m)
    (hd : Duties P ops Q (fun i v _ => vals[i]? = some v) a0 w0 0 (ops.toList.take k))
    (hlast : ∀ w, Ext w0 w → ol.wp P (filled (ops.toList.take k) vals a0) w (fun a' w' => Q .normal a' w') Q) : RegionP P ops Q a0 w0 := by
  refine region_last_e m (fun i v _ => vals[i]? = some v) (fun _ _ _ _ h _ => h) hchk hsz k ol hk hks hg hdn hd fun us w hE hl hP => ?_
  have : us = vals := List.ext_getElem? fun i => by
    have hl' : us.length = k := by rw [hl, List.length_take]; simp [hks]
    by_cases hi : i < us.length
    · rw [hP i us[i] (List.getElem?_eq_getElem hi), List.getElem?_eq_getElem hi]
    · rw [List.getElem?_eq_none (by omega), List.getElem?_eq_none (by omega)]
  rw [this]
  exact hlast w hE
end
end Go.Proofs.YtamolbegmkngdaaGreatDoor
namespace Go.Proofs.YtamolbegmkngdaaGreatDoor
open Go.RowKit
section
variable {P : Program} {ops : Array Oper} {Q : Exit → Act → World → Prop} {a0 : Act} {w0 : World}

/-- Does i wait for j? -/
def reachB (ops : Array Oper) : Nat → Nat → Nat → Bool
  | 0, i, j => i == j
  | f + 1, i, j => i == j || (ops[i]?.any fun o => o.after.toList.any fun e => Region.binds .any e && reachB ops f e.on j)
def Closed (ops : Array Oper) (l : Array Bool) : Prop := ∀ (i : Nat) o, ops[i]? = some o → l.getD i false = true → ∀ e ∈ o.after.toList, Region.binds .any e = true → l.getD e.on false = true
theorem Closed.reach {l : Array Bool} (h : Closed ops l) : ∀ (f i j : Nat), reachB ops f i j = true → l.getD i false = true → l.getD j false = true
  | 0, i, j, hr, hi => by simp [reachB] at hr; rw [← hr]; exact hi
  | f + 1, i, j, hr, hi => by
    simp only [reachB, Bool.or_eq_true, beq_iff_eq] at hr
    rcases hr with rfl | hr
    · exact hi
    · obtain ⟨o, ho, he⟩ := (Option.any_eq_true _ _).1 hr
      obtain ⟨e, hem, h2⟩ := List.any_eq_true.1 he
      simp only [Bool.and_eq_true] at h2
      exact h.reach f e.on j h2.2 (h i o ho hi e hem h2.1)

/-- An operation's duty: p is the one that turns memory; b: has it been? -/
def DutyP (P : Program) (ops : Array Oper) (Q : Exit → Act → World → Prop) (p : Nat) (G : Bool → World → Prop) (Φ : Nat → Value → World → Prop) (a0 : Act) (i : Nat) (o : Oper) : Prop :=
  ∀ b a w, (reachB ops ops.size p i = true → b = false) → (p < i → b = true) → G b w → Framed ops a0 a → Ahead ops Φ o a w →
    o.wp P a w (fun a' w' => ∃ v, a' = a.put o.dst v ∧ Φ i v w' ∧ (∀ j u, j ≠ i → (i = p → j < p) → Φ j u w → Φ j u w') ∧ G (b || i == p) w') Q
def DutiesP (P : Program) (ops : Array Oper) (Q : Exit → Act → World → Prop) (p : Nat) (G : Bool → World → Prop) (Φ : Nat → Value → World → Prop) (a0 : Act) : Nat → List Oper → Prop
  | _, [] => True
  | i, o :: l => DutyP P ops Q p G Φ a0 i o ∧ DutiesP P ops Q p G Φ a0 (i + 1) l
theorem DutiesP.at {p : Nat} {G : Bool → World → Prop} {Φ : Nat → Value → World → Prop} : ∀ {l : List Oper} {k : Nat}, DutiesP P ops Q p G Φ a0 k l → ∀ i o, l[i]? = some o → DutyP P ops Q p G Φ a0 (k + i) o
  | [], _, _, i, o, h => by simp at h
  | q :: l, k, hd, 0, o, h => by simp at h; subst h; exact hd.1
  | q :: l, k, hd, i + 1, o, h => by
    have := DutiesP.at (k := k + 1) hd.2 i o (by simpa using h)
    rwa [show k + 1 + i = k + (i + 1) from by omega] at this

/-- All that stand behind p wait for it. -/
def behindB (ops : Array Oper) (p : Nat) : Bool := ops.toList.zipIdx.all fun x => decide (x.2 ≤ p) || x.1.after.toList.any fun e => e.on == p && Region.binds .any e

theorem region_pivot (m p : Nat) (G : Bool → World → Prop) (hGd : G false w0.drew) (Φ : Nat → Value → World → Prop)
    (hund : ∀ i v w, Φ i v w → (ops[i]?.any fun o => o.dst.isNone) = true → Φ i undef w)
    (hchk : (dstsOk ops && aheadB ops && behindB ops p && (ops.toList.all fun o => o.guard.isNone && o.dst.all fun d => decide (d < m))) = true) (hsz : a0.tmps.size = m) (hp : p < ops.size)
    (hd : DutiesP P ops Q p G Φ a0 0 ops.toList)
    (hend : ∀ us w, G true w → us.length = ops.toList.length → (∀ i u, us[i]? = some u → Φ i u w) → Q .normal (filled ops.toList us a0) w) :
    RegionP P ops Q a0 w0 := by
  simp only [Bool.and_eq_true] at hchk
  obtain ⟨⟨⟨hdst, hacy⟩, hbeh⟩, hall⟩ := hchk
  have hin : ∀ o ∈ ops.toList, ∀ d, o.dst = some d → d < a0.tmps.size := fun o ho d hd => by
    have := List.all_eq_true.1 hall o ho
    simp only [Bool.and_eq_true] at this
    have := this.2
    rw [hd] at this
    rw [hsz]; simpa using this
  have hng : ∀ o ∈ ops.toList, o.guard = none := fun o ho => by
    have := List.all_eq_true.1 hall o ho
    simp only [Bool.and_eq_true] at this
    simpa using this.1
  have hdn : (ops.toList.filterMap (·.dst)).Nodup := by simpa [dstsOk] using hdst
  unfold RegionP
  refine wpAny_inv (fun l a w => l.size = ops.size ∧ G (l.getD p false) w ∧ Framed ops a0 a ∧ (∀ i o, ops[i]? = some o → l.getD i false = true → Φ i (valOf o a) w) ∧ Closed ops l) (fun _ _ _ h => h.1) ?_ ?_ _ _ _ _ ?_ ?_
  · rintro l a w i ⟨hs, hE, hF, hP, hC⟩ hi
    obtain ⟨hlt, hu, hpre⟩ := (ready_iff hs).1 hi
    have ho : ops[i]? = some ops[i] := Array.getElem?_eq_getElem hlt
    have hol : ops.toList[i]? = some ops[i] := by simp
    have hmem : ops[i] ∈ ops.toList := by simp
    have hduty := hd.at i ops[i] hol
    rw [Nat.zero_add] at hduty
    have hip : p < i → l.getD p false = true := fun hlt' => by
      have := List.all_eq_true.1 hbeh (ops[i], i) (List.mem_of_getElem? (i := i) (by simp [List.getElem?_zipIdx]))
      simp only [Bool.or_eq_true, decide_eq_true_eq, List.any_eq_true, Bool.and_eq_true, beq_iff_eq] at this
      rcases this with h | ⟨e, he, h1, h2⟩
      · omega
      · rw [← h1]; exact hpre e he h2
    have hgo := hduty (l.getD p false) a w (fun e => by
      cases hq : l.getD p false with
      | false => rfl
      | true => have := hC.reach _ _ _ e hq; rw [hu] at this; cases this) hip hE hF (fun e he hb q hq => hP e.on q hq (hpre e he hb))
    unfold wpOpP
    rw [ho]
    simp only []
    rw [if_pos (by unfold Region.wanted; rw [hng _ hmem])]
    refine Oper.wp_mono (fun a' w' h => ?_) hgo
    obtain ⟨v, rfl, hv, hk, hG'⟩ := h
    have hgp : (l.setIfInBounds i true).getD p false = (l.getD p false || i == p) := by
      by_cases e : p = i
      · subst e
        rw [getD_set_same (by omega)]; simp
      · rw [getD_set_other e]
        have : (i == p) = false := by simpa using fun h => e h.symm
        rw [this, Bool.or_false]
    refine ⟨by simpa using hs, by rw [hgp]; exact hG', framed_put hF hmem v, fun j o hj hlj => ?_, fun j o hj hlj e he hb => ?_⟩
    · by_cases e : j = i
      · subst e
        rw [ho] at hj
        obtain rfl := Option.some.inj hj
        by_cases hdd : ops[j].dst = none
        · have : valOf ops[j] (a.put ops[j].dst v) = undef := by unfold valOf; rw [hdd]
          rw [this]
          exact hund j v w' hv (by rw [ho]; simp [hdd])
        · rw [valOf_put_same (fun d hd => by rw [hF.2.1]; exact hin _ hmem d hd) (fun h => absurd h hdd)]
          exact hv
      · rw [getD_set_other e] at hlj
        rw [valOf_put_other (fun d hd h => e (dst_inj ops.toList hdn j i o ops[i] d (by simpa using hj) hol hd h))]
        refine hk j _ e (fun hip' => ?_) (hP j o hj hlj)
        subst hip'
        rcases Nat.lt_trichotomy j i with h1 | h1 | h1
        · exact h1
        · exact absurd h1 e
        · have := List.all_eq_true.1 hbeh (o, j) (List.mem_of_getElem? (i := j) (by rw [List.getElem?_zipIdx, show ops.toList[j]? = some o by simpa using hj]; simp))
          simp only [Bool.or_eq_true, decide_eq_true_eq, List.any_eq_true, Bool.and_eq_true, beq_iff_eq] at this
          rcases this with h | ⟨e', he, h3, h2⟩
          · omega
          · have h4 := hC j o hj hlj e' he h2
            rw [h3, hu] at h4; cases h4
    · by_cases hei : e.on = i
      · rw [hei]; exact getD_set_same (by omega)
      · rw [getD_set_other hei]
        by_cases hji : j = i
        · subst hji
          rw [ho] at hj
          obtain rfl := Option.some.inj hj
          exact hpre e he hb
        · rw [getD_set_other hji] at hlj
          exact hC j o hj hlj e he hb
  · rintro l a w ⟨hs, hE, hF, hP, _⟩ hr
    have hdone : ∀ i, i < ops.size → l.getD i false = true := fun i hi => ready_none hs hacy hr (i + 1) i (by omega) hi
    rw [hdone p hp] at hE
    rw [framed_filled hF ops.toList (fun _ h => h) (fun _ h => .inl h) hin]
    refine hend _ w hE (by simp) fun i u hu => ?_
    rw [List.getElem?_map, Option.map_eq_some_iff] at hu
    obtain ⟨o, ho, rfl⟩ := hu
    exact hP i o (by simpa using ho) (hdone i (Array.getElem?_eq_some_iff.1 (show ops[i]? = some o by simpa using ho)).1)
  · have hf : ∀ i, (Array.replicate ops.size false).getD i false = false := fun i => by
      rw [Array.getD_eq_getD_getElem?, Array.getElem?_replicate]; split <;> rfl
    refine ⟨by simp, by rw [hf]; exact hGd, ⟨rfl, rfl, fun _ _ => rfl⟩, ?_, ?_⟩
    · intro i o _ h
      rw [hf] at h; cases h
    · intro i o _ h
      rw [hf] at h; cases h
  · unfold unlisted
    exact Nat.le_trans (List.count_le_length) (by simp)
theorem dutyP_ext {p i : Nat} {o : Oper} {G : Bool → World → Prop} {Φ : Nat → Value → World → Prop} (hip : (i == p) = false) (hst : ∀ j u w w', Φ j u w → Ext w w' → Φ j u w') (hG : ∀ b w w', G b w → Ext w w' → G b w')
    (h : ∀ b a w, (reachB ops ops.size p i = true → b = false) → G b w → Framed ops a0 a → Ahead ops Φ o a w → o.wp P a w (fun a' w' => ∃ v, a' = a.put o.dst v ∧ Φ i v w' ∧ Ext w w') Q) : DutyP P ops Q p G Φ a0 i o := by
  intro b a w hb _ hGw hF hA
  refine Oper.wp_mono (fun a' w' hh => ?_) (h b a w hb hGw hF hA)
  obtain ⟨v, rfl, hv, hE⟩ := hh
  exact ⟨v, rfl, hv, fun j u _ _ hj => hst j u _ _ hj hE, by rw [hip, Bool.or_false]; exact hG _ _ _ hGw hE⟩
end
end Go.Proofs.YtamolbegmkngdaaGreatDoor
namespace Go.Proofs.YtamolbegmkngdaaGreatDoor
open Go.RowKit
section
variable {P : Program} {ops : Array Oper} {Q : Exit → Act → World → Prop} {a0 : Act} {w0 : World}

/-- An operation's duty; l: which are done. Φ speaks of values alone. -/
def DutyS (P : Program) (ops : Array Oper) (Q : Exit → Act → World → Prop) (G : (Nat → Bool) → World → Prop) (Φ : Nat → Value → Prop) (a0 : Act) (i : Nat) (o : Oper) : Prop :=
  ∀ (d : Nat → Bool) a w, d i = false → (∀ f k j, reachB ops f k j = true → d k = true → d j = true) → (∀ e ∈ o.after.toList, Region.binds .any e = true → d e.on = true) → G d w → Framed ops a0 a → Ahead ops (fun i v _ => Φ i v) o a w →
    o.wp P a w (fun a' w' => ∃ v, a' = a.put o.dst v ∧ Φ i v ∧ G (fun k => d k || k == i) w') Q
def DutiesS (P : Program) (ops : Array Oper) (Q : Exit → Act → World → Prop) (G : (Nat → Bool) → World → Prop) (Φ : Nat → Value → Prop) (a0 : Act) : Nat → List Oper → Prop
  | _, [] => True
  | i, o :: l => DutyS P ops Q G Φ a0 i o ∧ DutiesS P ops Q G Φ a0 (i + 1) l
theorem DutiesS.at {G : (Nat → Bool) → World → Prop} {Φ : Nat → Value → Prop} : ∀ {l : List Oper} {k : Nat}, DutiesS P ops Q G Φ a0 k l → ∀ i o, l[i]? = some o → DutyS P ops Q G Φ a0 (k + i) o
  | [], _, _, i, o, h => by simp at h
  | q :: l, k, hd, 0, o, h => by simp at h; subst h; exact hd.1
  | q :: l, k, hd, i + 1, o, h => by
    have := DutiesS.at (k := k + 1) hd.2 i o (by simpa using h)
    rwa [show k + 1 + i = k + (i + 1) from by omega] at this

theorem region_state (m : Nat) (G : (Nat → Bool) → World → Prop) (hG0 : G (fun _ => false) w0.drew) (Φ : Nat → Value → Prop)
    (hchk : (dstsOk ops && aheadB ops && (ops.toList.all fun o => o.guard.isNone && o.dst.any fun d => decide (d < m))) = true) (hsz : a0.tmps.size = m)
    (hd : DutiesS P ops Q G Φ a0 0 ops.toList)
    (hend : ∀ us d w, (∀ i, i < ops.size → d i = true) → G d w → us.length = ops.toList.length → (∀ i u, us[i]? = some u → Φ i u) → Q .normal (filled ops.toList us a0) w) :
    RegionP P ops Q a0 w0 := by
  simp only [Bool.and_eq_true] at hchk
  obtain ⟨⟨hdst, hacy⟩, hall⟩ := hchk
  have hdd : ∀ o ∈ ops.toList, ∃ d, o.dst = some d ∧ d < a0.tmps.size := fun o ho => by
    have := List.all_eq_true.1 hall o ho
    simp only [Bool.and_eq_true] at this
    have h2 := this.2
    cases hq : o.dst with
    | none => rw [hq] at h2; cases h2
    | some d => rw [hq] at h2; exact ⟨d, rfl, by rw [hsz]; simpa using h2⟩
  have hin : ∀ o ∈ ops.toList, ∀ d, o.dst = some d → d < a0.tmps.size := fun o ho d hd => by
    obtain ⟨d', h1, h2⟩ := hdd o ho
    rw [hd] at h1
    rw [Option.some.inj h1]; exact h2
  have hng : ∀ o ∈ ops.toList, o.guard = none := fun o ho => by
    have := List.all_eq_true.1 hall o ho
    simp only [Bool.and_eq_true] at this
    simpa using this.1
  have hdn : (ops.toList.filterMap (·.dst)).Nodup := by simpa [dstsOk] using hdst
  unfold RegionP
  refine wpAny_inv (fun l a w => l.size = ops.size ∧ G (fun k => l.getD k false) w ∧ Framed ops a0 a ∧ (∀ i o, ops[i]? = some o → l.getD i false = true → Φ i (valOf o a)) ∧ Closed ops l) (fun _ _ _ h => h.1) ?_ ?_ _ _ _ _ ?_ ?_
  · rintro l a w i ⟨hs, hE, hF, hP, hC⟩ hi
    obtain ⟨hlt, hu, hpre⟩ := (ready_iff hs).1 hi
    have ho : ops[i]? = some ops[i] := Array.getElem?_eq_getElem hlt
    have hol : ops.toList[i]? = some ops[i] := by simp
    have hmem : ops[i] ∈ ops.toList := by simp
    have hduty := hd.at i ops[i] hol
    rw [Nat.zero_add] at hduty
    have hgo := hduty (fun k => l.getD k false) a w hu (fun f k j h hk => hC.reach f k j h hk) (fun e he hb => hpre e he hb) hE hF (fun e he hb q hq => hP e.on q hq (hpre e he hb))
    unfold wpOpP
    rw [ho]
    simp only []
    rw [if_pos (by unfold Region.wanted; rw [hng _ hmem])]
    refine Oper.wp_mono (fun a' w' h => ?_) hgo
    obtain ⟨v, rfl, hv, hG'⟩ := h
    have hgp : (fun k => (l.setIfInBounds i true).getD k false) = fun k => l.getD k false || k == i := by
      funext k
      by_cases e : k = i
      · subst e
        rw [getD_set_same (by omega)]; simp
      · rw [getD_set_other e]
        have : (k == i) = false := by simpa using e
        rw [this, Bool.or_false]
    refine ⟨by simpa using hs, by rw [hgp]; exact hG', framed_put hF hmem v, fun j o hj hlj => ?_, fun j o hj hlj e he hb => ?_⟩
    · by_cases e : j = i
      · subst e
        rw [ho] at hj
        obtain rfl := Option.some.inj hj
        obtain ⟨d, hd1, _⟩ := hdd _ hmem
        rw [valOf_put_same (fun d hd => by rw [hF.2.1]; exact hin _ hmem d hd) (fun h => by rw [hd1] at h; cases h)]
        exact hv
      · rw [getD_set_other e] at hlj
        rw [valOf_put_other (fun d hd h => e (dst_inj ops.toList hdn j i o ops[i] d (by simpa using hj) hol hd h))]
        exact hP j o hj hlj
    · by_cases hei : e.on = i
      · rw [hei]; exact getD_set_same (by omega)
      · rw [getD_set_other hei]
        by_cases hji : j = i
        · subst hji
          rw [ho] at hj
          obtain rfl := Option.some.inj hj
          exact hpre e he hb
        · rw [getD_set_other hji] at hlj
          exact hC j o hj hlj e he hb
  · rintro l a w ⟨hs, hE, hF, hP, _⟩ hr
    have hdone : ∀ i, i < ops.size → l.getD i false = true := fun i hi => ready_none hs hacy hr (i + 1) i (by omega) hi
    rw [framed_filled hF ops.toList (fun _ h => h) (fun _ h => .inl h) hin]
    refine hend _ _ w hdone hE (by simp) fun i u hu => ?_
    rw [List.getElem?_map, Option.map_eq_some_iff] at hu
    obtain ⟨o, ho, rfl⟩ := hu
    exact hP i o (by simpa using ho) (hdone i (Array.getElem?_eq_some_iff.1 (show ops[i]? = some o by simpa using ho)).1)
  · have hf : ∀ i, (Array.replicate ops.size false).getD i false = false := fun i => by
      rw [Array.getD_eq_getD_getElem?, Array.getElem?_replicate]; split <;> rfl
    refine ⟨by simp, by simp only [hf]; exact hG0, ⟨rfl, rfl, fun _ _ => rfl⟩, ?_, ?_⟩
    · intro i o _ h
      rw [hf] at h; cases h
    · intro i o _ h
      rw [hf] at h; cases h
  · unfold unlisted
    exact Nat.le_trans (List.count_le_length) (by simp)

theorem region_state_vals (m : Nat) (G : (Nat → Bool) → World → Prop) (hG0 : G (fun _ => false) w0.drew) (vals : List Value) (hlen : vals.length = ops.toList.length)
    (hchk : (dstsOk ops && aheadB ops && (ops.toList.all fun o => o.guard.isNone && o.dst.any fun d => decide (d < m))) = true) (hsz : a0.tmps.size = m)
    (hd : DutiesS P ops Q G (fun i v => vals[i]? = some v) a0 0 ops.toList)
    (hend : ∀ d w, (∀ i, i < ops.size → d i = true) → G d w → Q .normal (filled ops.toList vals a0) w) : RegionP P ops Q a0 w0 := by
  refine region_state m G hG0 (fun i v => vals[i]? = some v) hchk hsz hd fun us d w hdn hG hl hP => ?_
  have : us = vals := List.ext_getElem? fun i => by
    by_cases hi : i < us.length
    · rw [hP i us[i] (List.getElem?_eq_getElem hi), List.getElem?_eq_getElem hi]
    · rw [List.getElem?_eq_none (by omega), List.getElem?_eq_none (by omega)]
  rw [this]
  exact hend d w hdn hG

/-- An operation that only reads. -/
theorem dutyS_ext {i : Nat} {o : Oper} {G : (Nat → Bool) → World → Prop} {Φ : Nat → Value → Prop} (hG : ∀ d d' w w', G d w → Ext w w' → (∀ k, k ≠ i → d' k = d k) → G d' w')
    (h : ∀ d a w, G d w → Framed ops a0 a → Ahead ops (fun i v _ => Φ i v) o a w → o.wp P a w (fun a' w' => ∃ v, a' = a.put o.dst v ∧ Φ i v ∧ Ext w w') Q) : DutyS P ops Q G Φ a0 i o := by
  intro d a w _ _ _ hGw hF hA
  refine Oper.wp_mono (fun a' w' hh => ?_) (h d a w hGw hF hA)
  obtain ⟨v, rfl, hv, hE⟩ := hh
  exact ⟨v, rfl, hv, hG d _ _ _ hGw hE fun k hk => by
    have : (k == i) = false := by simpa using hk
    rw [this, Bool.or_false]⟩
end
end Go.Proofs.YtamolbegmkngdaaGreatDoor
namespace Go.Proofs.YtamolbegmkngdaaGreatDoor
open Go.RowKit
section
variable {P : Program} {ops : Array Oper} {Q : Exit → Act → World → Prop} {a0 : Act} {w0 : World}

theorem region_state0 (m : Nat) (G : (Nat → Bool) → World → Prop) (hG0 : G (fun _ => false) w0.drew) (Φ : Nat → Value → Prop)
    (hchk : (dstsOk ops && aheadB ops && (ops.toList.all fun o => o.guard.isNone && o.dst.all fun d => decide (d < m))) = true) (hsz : a0.tmps.size = m)
    (hnone : ∀ (i : Nat) (o : Oper) (v : Value), ops[i]? = some o → o.dst = none → Φ i v → v = undef)
    (hd : DutiesS P ops Q G Φ a0 0 ops.toList)
    (hend : ∀ us d w, (∀ i, i < ops.size → d i = true) → G d w → us.length = ops.toList.length → (∀ i u, us[i]? = some u → Φ i u) → Q .normal (filled ops.toList us a0) w) :
    RegionP P ops Q a0 w0 := by
  simp only [Bool.and_eq_true] at hchk
  obtain ⟨⟨hdst, hacy⟩, hall⟩ := hchk
  have hin : ∀ o ∈ ops.toList, ∀ d, o.dst = some d → d < a0.tmps.size := fun o ho d hd => by
    have := List.all_eq_true.1 hall o ho
    simp only [Bool.and_eq_true] at this
    have h2 := this.2
    rw [hd] at h2
    rw [hsz]; simpa using h2
  have hng : ∀ o ∈ ops.toList, o.guard = none := fun o ho => by
    have := List.all_eq_true.1 hall o ho
    simp only [Bool.and_eq_true] at this
    simpa using this.1
  have hdn : (ops.toList.filterMap (·.dst)).Nodup := by simpa [dstsOk] using hdst
  unfold RegionP
  refine wpAny_inv (fun l a w => l.size = ops.size ∧ G (fun k => l.getD k false) w ∧ Framed ops a0 a ∧ (∀ i o, ops[i]? = some o → l.getD i false = true → Φ i (valOf o a)) ∧ Closed ops l) (fun _ _ _ h => h.1) ?_ ?_ _ _ _ _ ?_ ?_
  · rintro l a w i ⟨hs, hE, hF, hP, hC⟩ hi
    obtain ⟨hlt, hu, hpre⟩ := (ready_iff hs).1 hi
    have ho : ops[i]? = some ops[i] := Array.getElem?_eq_getElem hlt
    have hol : ops.toList[i]? = some ops[i] := by simp
    have hmem : ops[i] ∈ ops.toList := by simp
    have hduty := hd.at i ops[i] hol
    rw [Nat.zero_add] at hduty
    have hgo := hduty (fun k => l.getD k false) a w hu (fun f k j h hk => hC.reach f k j h hk) (fun e he hb => hpre e he hb) hE hF (fun e he hb q hq => hP e.on q hq (hpre e he hb))
    unfold wpOpP
    rw [ho]
    simp only []
    rw [if_pos (by unfold Region.wanted; rw [hng _ hmem])]
    refine Oper.wp_mono (fun a' w' h => ?_) hgo
    obtain ⟨v, rfl, hv, hG'⟩ := h
    have hgp : (fun k => (l.setIfInBounds i true).getD k false) = fun k => l.getD k false || k == i := by
      funext k
      by_cases e : k = i
      · subst e
        rw [getD_set_same (by omega)]; simp
      · rw [getD_set_other e]
        have : (k == i) = false := by simpa using e
        rw [this, Bool.or_false]
    refine ⟨by simpa using hs, by rw [hgp]; exact hG', framed_put hF hmem v, fun j o hj hlj => ?_, fun j o hj hlj e he hb => ?_⟩
    · by_cases e : j = i
      · subst e
        rw [ho] at hj
        obtain rfl := Option.some.inj hj
        rw [valOf_put_same (fun d hd => by rw [hF.2.1]; exact hin _ hmem d hd) (fun h => hnone j _ v ho h hv)]
        exact hv
      · rw [getD_set_other e] at hlj
        rw [valOf_put_other (fun d hd h => e (dst_inj ops.toList hdn j i o ops[i] d (by simpa using hj) hol hd h))]
        exact hP j o hj hlj
    · by_cases hei : e.on = i
      · rw [hei]; exact getD_set_same (by omega)
      · rw [getD_set_other hei]
        by_cases hji : j = i
        · subst hji
          rw [ho] at hj
          obtain rfl := Option.some.inj hj
          exact hpre e he hb
        · rw [getD_set_other hji] at hlj
          exact hC j o hj hlj e he hb
  · rintro l a w ⟨hs, hE, hF, hP, _⟩ hr
    have hdone : ∀ i, i < ops.size → l.getD i false = true := fun i hi => ready_none hs hacy hr (i + 1) i (by omega) hi
    rw [framed_filled hF ops.toList (fun _ h => h) (fun _ h => .inl h) hin]
    refine hend _ _ w hdone hE (by simp) fun i u hu => ?_
    rw [List.getElem?_map, Option.map_eq_some_iff] at hu
    obtain ⟨o, ho, rfl⟩ := hu
    exact hP i o (by simpa using ho) (hdone i (Array.getElem?_eq_some_iff.1 (show ops[i]? = some o by simpa using ho)).1)
  · have hf : ∀ i, (Array.replicate ops.size false).getD i false = false := fun i => by
      rw [Array.getD_eq_getD_getElem?, Array.getElem?_replicate]; split <;> rfl
    refine ⟨by simp, by simp only [hf]; exact hG0, ⟨rfl, rfl, fun _ _ => rfl⟩, ?_, ?_⟩
    · intro i o _ h
      rw [hf] at h; cases h
    · intro i o _ h
      rw [hf] at h; cases h
  · unfold unlisted
    exact Nat.le_trans (List.count_le_length) (by simp)

theorem region_state0_vals (m : Nat) (G : (Nat → Bool) → World → Prop) (hG0 : G (fun _ => false) w0.drew) (vals : List Value) (hlen : vals.length = ops.toList.length)
    (hchk : (dstsOk ops && aheadB ops && (ops.toList.all fun o => o.guard.isNone && o.dst.all fun d => decide (d < m))) = true) (hsz : a0.tmps.size = m)
    (hnone : ∀ (i : Nat) (o : Oper) (v : Value), ops[i]? = some o → o.dst = none → vals[i]? = some v → v = undef)
    (hd : DutiesS P ops Q G (fun i v => vals[i]? = some v) a0 0 ops.toList)
    (hend : ∀ d w, (∀ i, i < ops.size → d i = true) → G d w → Q .normal (filled ops.toList vals a0) w) : RegionP P ops Q a0 w0 := by
  refine region_state0 m G hG0 (fun i v => vals[i]? = some v) hchk hsz (fun i o v h1 h2 h3 => hnone i o v h1 h2 h3) hd fun us d w hdn hG hl hP => ?_
  have : us = vals := List.ext_getElem? fun i => by
    by_cases hi : i < us.length
    · rw [hP i us[i] (List.getElem?_eq_getElem hi), List.getElem?_eq_getElem hi]
    · rw [List.getElem?_eq_none (by omega), List.getElem?_eq_none (by omega)]
  rw [this]
  exact hend d w hdn hG

end
end Go.Proofs.YtamolbegmkngdaaGreatDoor
namespace Go.Proofs.YtamolbegmkngdaaGreatDoor
open Go.RowKit Go.Sort
set_option maxHeartbeats 2000000
set_option maxRecDepth 100000

/-- A node of a path alone. -/
def pN (p : ByteArray) : Nd := ⟨p, [], [], 0, 0, 0, 0, 0, 0, 0, 0, 0, 0, 0, false, 0, 0⟩
def aP : ByteArray := ⟨#[47, 97]⟩
def abP : ByteArray := ⟨#[47, 97, 47, 98]⟩
def aM0 : List (Key × Nd) := [(keyN rootN, rootN)]
def aM1 : List (Key × Nd) := addM aM0 (pN aP)
def aM2 : List (Key × Nd) := addM aM1 (pN abP)
theorem am_1 : addE aM0 (pN abP) = 73 := by decide +kernel
theorem am_2 : addE aM0 (pN aP) = 0 := by decide +kernel
theorem am_3 : addE aM1 (pN abP) = 0 := by decide +kernel
theorem am_4 : addM aM0 (pN abP) = aM0 := by unfold addM; rw [if_neg (by rw [am_1]; decide)]
theorem am_5 : aM2.length = 3 := by decide +kernel
theorem am_6 : remE aM2 aP = 72 := by decide +kernel
theorem am_7 : (kidsOf aM2 ⟨#[47]⟩).map (·.1) = [[97]] := by decide +kernel
theorem am_8 : (mget aM2 [47]).isSome = true := by decide +kernel
theorem am_9 : (mget aM2 abP.data.toList).isSome = true := by decide +kernel
theorem am_10 : ∀ k ∈ aM2.map (·.1), k.length ≤ 9 := by decide +kernel
theorem am_12 : ((nodesOf aM2 (aM2.map (·.1))).take (9 + 1)).length = 3 := by decide +kernel
theorem am_11 : remM aM2 aP = aM2 := by unfold remM; rw [if_neg (by rw [am_6]; decide)]

/-- A tree of the walk's own blocks. -/
def Own (B : Nat) (w : World) (bt : Nat) (M : List (Key × Nd)) (N : Nat) : Prop := TreeAt (fun k => B ≤ k ∧ k < w.heap.size) w bt M N
theorem own_to {B : Nat} {w w' : World} {bt : Nat} {M : List (Key × Nd)} {N : Nat} {v : Value} {e : Ending} (hB : B ≤ w.heap.size) (h : TreeTo (fun k => B ≤ k ∧ k < w.heap.size) w bt M N v e w') : e = .returned v ∧ Own B w' bt M N ∧ Below B w w' := by
  obtain ⟨h1, h2, h3⟩ := h
  have hs := h3.size
  exact ⟨h1, h2.keep (fun _ _ => rfl) (fun k hk => hk.elim (fun h => ⟨h.1, by omega⟩) (fun h => ⟨by omega, h.2⟩)) (fun k hk => hk.2) (Nat.le_refl _), h3.below (fun k hk => hk.1) hB⟩
theorem Own.ext {B : Nat} {w w' : World} {bt : Nat} {M : List (Key × Nd)} {N : Nat} (h : Own B w bt M N) (he : Ext w w') : Own B w' bt M N :=
  (TreeAt.ext h he).keep (fun _ _ => rfl) (fun _ hk => ⟨hk.1, Nat.lt_of_lt_of_le hk.2 he.size⟩) (fun _ hk => hk.2) (Nat.le_refl _)

theorem pN_fit (p : ByteArray) (hp : p.size ≤ 4) : Fit (pN p) := ⟨by simp [pN]; omega, by simp [pN], by simp [pN], fun x hx => by simp [pN] at hx⟩

theorem kids_one : ((kidsOf aM2 ⟨#[47]⟩).map fun x => encStr x.1) = [.string ⟨#[97]⟩] ∧ (kidsOf aM2 ⟨#[47]⟩).length = 1 := by
  have h := am_7
  constructor
  · have : ((kidsOf aM2 ⟨#[47]⟩).map fun x => encStr x.1) = ((kidsOf aM2 ⟨#[47]⟩).map (·.1)).map encStr := by simp
    rw [this, h]; rfl
  · have := congrArg List.length h
    simpa using this

theorem addp_any {B : Nat} {w : World} {bt : Nat} {M : List (Key × Nd)} {N : Nat} (h : Own B w bt M N) (hB : B ≤ w.heap.size) (hu : Tabs w) (p : ByteArray) (hp : p.size ≤ 4) (hN : N < 100) (r : Int) (M' : List (Key × Nd)) (hr : addE M (pN p) = r) (hM : addM M (pN p) = M') :
    Calls Tryz.prog 40 #[.pointer (some ⟨bt, 0, none⟩), .agg (ndC (pN p) (.slice none 0 0) (.slice none 0 0))] w fun e w' => e = .returned (.int .i64 r) ∧ Own B w' bt M' (N + 1) ∧ Below B w w' := by
  subst hr hM
  exact (add_any _ w bt M N h (pN p) none none 0 0 hu (pN_fit p hp) (by omega) (fun j u h => by simp [pN] at h) (fun j u h => by simp [pN, acCs] at h)).mono fun e w' hq => own_to hB hq

theorem alive_any (w : World) (hT0 : Tabs w) : Calls Tryz.prog 23 #[] w fun e w' => e = .returned (.bool true) ∧ Ext w w' := by
  have hsz := hT0.size
  have HT0 := Lib.hid hT0
  clear hT0
  go_enter Tryz.func23, Tryz.ntmps23
  go_wp2_with fail
  refine (new_any w).mono ?_
  rintro e w1 ⟨bt, rfl, hT1, hE1⟩
  have C2 := addp_any hT1 hE1.size (HT0.out.below hE1 hsz) abP (by decide) (by omega) _ _ am_1 am_4
  have hz1 := hE1.size
  have hB1 : Below w.heap.size w w1 := hE1
  have HE1 := Lib.hid hB1
  clear hT1 hE1 hB1
  go_wp2_with fail
  refine C2.mono ?_
  rintro e w2 ⟨rfl, hT2, hM2⟩
  have hE2 := HE1.out.trans hM2
  have C3 := addp_any hT2 hE2.size (HT0.out.below hE2 hsz) aP (by decide) (by omega) _ aM1 am_2 rfl
  have hz2 := hE2.size
  have HE2 := Lib.hid hE2
  clear hT2 hE2 hM2 C2
  go_wp2_with fail
  refine C3.mono ?_
  rintro e w3 ⟨rfl, hT3, hM3⟩
  have hE3 := HE2.out.trans hM3
  have C4 := addp_any hT3 hE3.size (HT0.out.below hE3 hsz) abP (by decide) (by omega) _ aM2 am_3 rfl
  have hz3 := hE3.size
  have HE3 := Lib.hid hE3
  clear hT3 hE3 hM3 C3
  go_wp2_with fail
  refine C4.mono ?_
  rintro e w4 ⟨rfl, hT4, hM4⟩
  have hE4 := HE3.out.trans hM4
  have C5 := children_any _ w4 bt aM2 _ hT4 ⟨#[47]⟩ (by decide) (by rw [am_5]; omega)
  have HT4 := Lib.hid hT4
  have hz4 := hE4.size
  have HE4 := Lib.hid hE4
  clear hT4 hE4 hM4 C4
  go_wp2_with fail
  refine C5.mono ?_
  rintro e w5 ⟨v, rfl, hEx, hrow⟩
  have h8 : (mget aM2 (⟨#[47]⟩ : ByteArray).data.toList).isSome = true := am_8
  rw [h8] at hrow ⊢
  rw [if_pos rfl] at hrow ⊢
  rw [kids_one.1, kids_one.2] at hrow
  obtain ⟨ra, rc, rfl, hrows⟩ := ownsRow_from hrow
  obtain ⟨rb, ro, rfl, _, hrb, hr0⟩ := hrows 0 _ rfl
  have hE5 := HE4.out.trans (hEx.mono hz4)
  have C6 := tget_any _ w5 bt aM2 _ (HT4.out.ext hEx) abP (by decide)
  have HT5 := Lib.hid (HT4.out.ext hEx)
  have hz5 := hE5.size
  have HE5 := Lib.hid hE5
  have HR0 := Lib.hid hr0
  clear hE5 hEx hrow hrows C5 hr0
  go_wp2_with fail
  refine C6.mono ?_
  rintro e w6 ⟨v, rfl, hv, hE6⟩
  obtain ⟨da, dc, aa, ac, rfl, _⟩ := hv
  rw [am_9]
  generalize (mget aM2 abP.data.toList).getD zeroN = n at *
  obtain ⟨W7, hW7⟩ : ∃ W7, W7 = w6.alloc (.cells (ndC n (.slice da n.data.length dc) (.slice aa n.acl.length ac)) 47) := ⟨_, rfl⟩
  have HSET := Lib.hid ((setRow_alloc w6 zeroNd (ndC n (.slice da n.data.length dc) (.slice aa n.acl.length ac)) 47).trans hW7.symm)
  have HNew := Lib.hid (heap_alloc_new w6 (.cells zeroNd 47))
  have hx7 : Ext w5 W7 := hE6.trans (by rw [hW7]; exact Ext.alloc _ _)
  have hE7 := HE5.out.trans (hx7.mono hz5)
  have hr7 : W7.cell? ⟨rb, ro + 0, none⟩ = some (.string ⟨#[97]⟩) := (hx7.cell (p := ⟨rb, ro + 0, none⟩) hrb).trans HR0.out
  rw [Nat.add_zero] at hr7
  have hT7 := HT5.out.ext hx7
  have C8 := tcount_any _ W7 bt aM2 _ hT7
  rw [am_5, show ((3 : Nat) : Int) = 3 from rfl] at C8
  have C9 := rem_any _ W7 bt aM2 _ hT7 aP (by decide) (by omega)
  rw [am_6, am_11] at C9
  have hz7 := hE7.size
  have HE7 := Lib.hid hE7
  have HT7 := Lib.hid hT7
  unfold ndC at HSET ⊢
  unfold zeroNd at HSET HNew
  clear hE6 hW7 hx7 hE7 hT7 C6 HR0
  go_wp2_with (refine wpList_store_row rfl 47 (.tmp 4) (.tmp 35) rfl w6.heap.size _ rfl rfl 47 _ HNew.out sizeNd rfl (cells_node n da aa _ _ dc ac) ?_; rw [HSET.out])
  refine C8.mono ?_
  rintro e w8 ⟨rfl, hw8⟩
  subst hw8
  clear C8 HNew HSET
  go_wp2_with fail
  refine C9.mono ?_
  intro e w9 hq
  obtain ⟨rfl, hT9, hM9⟩ := own_to hz7 hq
  have hE9 := HE7.out.trans hM9
  have C10 := lall_any _ w9 bt aM2 _ hT9 9 (by unfold maxLen; omega) (by rw [am_5]; omega) (fun k hk => by have := am_10 k hk; unfold maxLen; omega)
  have hz9 := hE9.size
  have HE9 := Lib.hid hE9
  clear hq hT9 hM9 hE9 C9
  go_wp2_with fail
  refine C10.mono ?_
  rintro e w10 ⟨v, vs, rfl, hvl, hrow, _, hE10⟩
  rw [am_12] at hrow
  obtain ⟨ra, rc, rfl, _⟩ := ownsRow_from hrow
  have hE10 := HE9.out.trans (hE10.mono hz9)
  have HE10 := Lib.hid hE10
  clear hrow hE10 C10 hvl
  go_wp2
  go_ret
  exact ⟨rfl, HE10.out⟩
end Go.Proofs.YtamolbegmkngdaaGreatDoor
namespace Go.Proofs.YtamolbegmkngdaaGreatDoor
open Go.RowKit
set_option maxHeartbeats 400000

theorem fields_of {t : TypeId} {fs : Array Field} (h : Tryz.prog.underlying t = some (.struct fs)) : Tryz.prog.fieldsOf t = fs := by
  unfold Program.fieldsOf; rw [h]
theorem eq_agg (w : World) (d : Nat) (t : TypeId) (fs : Array Field) (xs ys : Array Value) (h : Tryz.prog.underlying t = some (.struct fs)) (hp : Tryz.prog.stoodInHeld t = false) :
    (Op.equalIn (d + 1) t (.agg xs) (.agg ys)).run Tryz.prog w = (Op.eqFields d xs ys fs.toList).run Tryz.prog w := by
  rw [run_equalIn_agg w d t xs ys (by rw [fields_of h]; exact h) hp, fields_of h]

theorem eq_id (w : World) (d : Nat) (a b a' b' : ByteArray) : (Op.equalIn (d + 2) 164 (.agg #[.string a, .string b]) (.agg #[.string a', .string b'])).run Tryz.prog w = .ok (a.toList == a'.toList && b.toList == b'.toList) w := by
  rw [eq_agg w (d + 1) _ _ _ _ Tryz.underlying164 (by kernel_rfl)]
  simp [Op.eqFields, part, go_sem]
  repeat' split
  all_goals simp_all

def eqAc (x y : Ac) : Bool := x.perms == y.perms && (x.scheme.toList == y.scheme.toList && x.id.toList == y.id.toList)
def acV (x : Ac) : Value := .agg #[.int .i32 x.perms, .string x.scheme, .string x.id]
theorem eq_ac (w : World) (d : Nat) (x y : Ac) : (Op.equalIn (d + 3) 166 (acV x) (acV y)).run Tryz.prog w = .ok (eqAc x y) w := by
  unfold acV
  rw [eq_agg w (d + 2) _ _ _ _ Tryz.underlying166 (by kernel_rfl)]
  simp [Op.eqFields, part, go_sem]
  unfold eqAc
  repeat' split
  all_goals simp_all

theorem guard_ac : Tryz.prog.eqGuardType Tryz.prog.depth 166 = false := by kernel_rfl
theorem guard_q : Tryz.prog.eqGuardType Tryz.prog.depth 45 = false := by kernel_rfl
theorem neq_ac (w : World) (x y : Ac) : (binOp .neq 166 (.agg #[.int .i32 x.perms, .string x.scheme, .string x.id]) (.agg #[.int .i32 y.perms, .string y.scheme, .string y.id])).run Tryz.prog w = .ok (.bool (!eqAc x y)) w := by
  rw [run_neq_struct]
  have := eq_ac w 9997 x y
  unfold acV at this
  rw [this]
  rfl
theorem eql_ac (w : World) (x y : Ac) : (binOp .eql 166 (.agg #[.int .i32 x.perms, .string x.scheme, .string x.id]) (.agg #[.int .i32 y.perms, .string y.scheme, .string y.id])).run Tryz.prog w = .ok (.bool (eqAc x y)) w := by
  rw [run_eql_struct]
  have := eq_ac w 9997 x y
  unfold acV at this
  rw [this]
  rfl

def eqQ (h : Bool) (a b : Int) (h' : Bool) (a' b' : Int) : Bool := h == h' && (a == a' && b == b')
theorem eq_q (w : World) (d : Nat) (h : Bool) (a b : Int) (h' : Bool) (a' b' : Int) : (Op.equalIn (d + 2) 45 (.agg #[.bool h, .int .i64 a, .int .i64 b]) (.agg #[.bool h', .int .i64 a', .int .i64 b'])).run Tryz.prog w = .ok (eqQ h a b h' a' b') w := by
  rw [eq_agg w (d + 1) _ _ _ _ Tryz.underlying45 (by kernel_rfl)]
  simp [Op.eqFields, part, go_sem]
  unfold eqQ
  repeat' split
  all_goals simp_all
theorem neq_q (w : World) (h : Bool) (a b : Int) (h' : Bool) (a' b' : Int) : (binOp .neq 45 (.agg #[.bool h, .int .i64 a, .int .i64 b]) (.agg #[.bool h', .int .i64 a', .int .i64 b'])).run Tryz.prog w = .ok (.bool (!eqQ h a b h' a' b')) w := by
  rw [run_neq_struct, eq_q w 9998]; rfl
theorem eql_q (w : World) (h : Bool) (a b : Int) (h' : Bool) (a' b' : Int) : (binOp .eql 45 (.agg #[.bool h, .int .i64 a, .int .i64 b]) (.agg #[.bool h', .int .i64 a', .int .i64 b'])).run Tryz.prog w = .ok (.bool (eqQ h a b h' a' b')) w := by
  rw [run_eql_struct, eq_q w 9998]; rfl
end Go.Proofs.YtamolbegmkngdaaGreatDoor
