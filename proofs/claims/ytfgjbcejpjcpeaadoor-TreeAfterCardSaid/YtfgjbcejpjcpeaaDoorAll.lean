/- The walk of the law's All: a range over a tree's nodes. -/
import Derived.Test.YtfgjbcejpjcpeaaDoorIn
import Derived.Great.BuildSlice
namespace Go.Proofs.YtfgjbcejpjcpeaaDoor
open Go.RowKit Go.Sort
set_option maxHeartbeats 2000000
set_option maxRecDepth 100000
attribute [local go_sem] Oper.semAt_some

theorem infoSl : (Tryd.prog.info? 22).map (·.size) = some 1 := by kernel_rfl

theorem run_store_one {P : Program} {o : Oper} {a : Act} {w : World} (ty : TypeId) (x y : Operand) (ho : o.op = .store ty x y)
    (g : Nat) (v : Value) (hx : a.eval x = .pointer (some ⟨g, 0, none⟩)) (hy : a.eval y = v) (h1 : v.oneCell' = true)
    (t : TypeId) (old : Value) (hg : w.heap[g]? = some (.cells #[old] t (0, 0))) (hi : (P.info? ty).map (·.size) = some 1) : (execOp a.eval o).run P w = .ok .skip (w.setRow g #[v]) := by
  subst hy
  unfold execOp
  simp only [ho, hx, Instr.storeAt, Instr.sureAddr, Sem.run_bind, Sem.run_pure, Result.andThen_ok, run_storeVar_one w g t ty old _ hg hi h1]

/-- All but the box of the list and the list's own row. -/
def SafeO (bo : Nat) (W : World) (k : Nat) : Prop := k ≠ bo ∧ ∃ v, W.cell? ⟨bo, 0, none⟩ = some v ∧ v.ownBlock ≠ some k

/-- The rounds' invariant: what the list holds. -/
structure AllI (B bo bm : Nat) (w : World) (most : Nat) (pre : List (Value × Nd)) (vs : List (Array Value)) (v : Value) (W : World) : Prop where
  vals : pre.map (·.1) = vs.map Value.agg
  box : W.heap[bo]? = some (.cells #[v] 22 (0, 0))
  lim : W.heap[bm]? = some (.cells #[.int .i64 most] 3 (0, 0))
  row : W.ownsRow B 37 17 v pre.length (vs.flatMap Array.toList)
  nds : ∀ x ∈ pre, GS (SafeO bo) x W
  size : B ≤ W.heap.size
  keep : Below w.heap.size w W

theorem ownBlock_lt {w : World} {base e size n : Nat} {v : Value} {xs : List Value} (h : w.ownsRow base e size v n xs) (k : Nat) (hk : v.ownBlock = some k) : ∃ c, w.heap[k]? = some (.cells c e (0, 0)) := by
  rcases h.2 with ⟨rfl, _⟩ | ⟨g, cap, cur, rfl, _, hg, _⟩
  · simp [Value.ownBlock] at hk
  · simp [Value.ownBlock] at hk
    subst hk
    exact ⟨_, hg⟩

theorem row_at {w w' : World} {base e size n : Nat} {v : Value} {xs : List Value} (h : w.ownsRow base e size v n xs) (hk : ∀ g c, v.ownBlock = some g → w.heap[g]? = some (.cells c e (0, 0)) → w'.heap[g]? = some (.cells c e (0, 0))) : w'.ownsRow base e size v n xs := by
  refine ⟨h.1, ?_⟩
  rcases h.2 with h2 | ⟨g, cap, cur, rfl, h1, hg, h3⟩
  · exact .inl h2
  · exact .inr ⟨g, cap, cur, rfl, h1, hk g cur (by simp [Value.ownBlock]) hg, h3⟩

theorem Turn.cells {B : Nat} {X Y : World} (h : Turn B X Y) {k : Nat} {c : Array Value} {e : TypeId} {f : Nat × Nat} (hk : X.heap[k]? = some (.cells c e f)) : Y.heap[k]? = some (.cells c e f) := h.same k _ hk (.inr rfl)
theorem Turn.cell {B : Nat} {X Y : World} (h : Turn B X Y) {a : Addr} {u : Value} (hu : X.cell? a = some u) : Y.cell? a = some u := by
  obtain ⟨c, e, f, hk⟩ := cell_cells hu
  rw [World.cell?_of_block ((h.cells hk).trans hk.symm)]
  exact hu
theorem SafeO.turn {B bo : Nat} {X Y : World} (hT : Turn B X Y) (k : Nat) (h : SafeO bo X k) : SafeO bo Y k := by
  obtain ⟨h1, v, h2, h3⟩ := h
  exact ⟨h1, v, hT.cell h2, h3⟩
theorem gs_turn {B bo : Nat} {x : Value × Nd} {X Y : World} (h : GS (SafeO bo) x X) (hT : Turn B X Y) : GS (SafeO bo) x Y :=
  NdS.imp h (fun b hb => ⟨hb.1.turn hT, Nat.lt_of_lt_of_le hb.2 hT.size⟩) fun _ _ _ _ hu => hT.cell hu
theorem keepS_turn {B bo : Nat} {A X Y Z : World} (h : Turn B A X) (hk : KeepS (SafeO bo) X Y) (h2 : Turn B Y Z) : KeepS (SafeO bo) A Z :=
  ⟨Nat.le_trans h.size (Nat.le_trans hk.1 h2.size), fun k c e f hc hs => by
    obtain ⟨h3, h4⟩ := hk.2 k c e f (h.cells hc) (hs.turn h)
    exact ⟨h2.cells h3, h4.turn h2⟩⟩

theorem allI_turn {B bo bm : Nat} {w : World} {most : Nat} {pre : List (Value × Nd)} {vs : List (Array Value)} {v : Value} {X Y : World} (hI : AllI B bo bm w most pre vs v X) (hT : Turn B X Y) (hbo : bo < B) (hw : w.heap.size ≤ B) :
    AllI B bo bm w most pre vs v Y ∧ (∀ k, SafeO bo X k → SafeO bo Y k) ∧ ∀ k, X.heap.size ≤ k → SafeO bo Y k :=
  ⟨⟨hI.vals, hT.cells hI.box, hT.cells hI.lim, row_at hI.row fun _ _ _ hc => hT.cells hc, fun x hx => gs_turn (hI.nds x hx) hT, Nat.le_trans hI.size hT.size, hI.keep.trans (hT.below hw hI.keep.size)⟩,
    fun k h => h.turn hT, fun k hk => ⟨by have := hI.size; omega, v, hT.cell (cell_of_row _ _ _ _ _ _ hI.box), fun e => by
      obtain ⟨c, hc⟩ := ownBlock_lt hI.row k e
      have := (Array.getElem?_eq_some_iff.1 hc).1
      omega⟩⟩

theorem allI_step {B bo bm : Nat} {w : World} {most : Nat} {pre : List (Value × Nd)} {vs : List (Array Value)} {v : Value} {W w5 : World} {cs : Array Value} {n : Nd} {v' : Value} {T' : TypeId} (hI : AllI B bo bm w most pre vs v W) (hbo : bo < B) (hbm : bm < B) (hne : bm ≠ bo) (hwo : w.heap.size ≤ bo)
    (hx : GS (SafeO bo) (.agg cs, n) W) (hown : w5.ownsRow B 37 17 v' (pre.length + 1) (vs.flatMap Array.toList ++ cs.toList)) (hg : (W.alloc (.cells cs T')).grownBy w5 v.ownBlock) (ho : v'.ownBlock = v.ownBlock ∨ v'.ownBlock = some (W.heap.size + 1)) :
    AllI B bo bm w most (pre ++ [(.agg cs, n)]) (vs ++ [cs]) v' (w5.setRow bo #[v']) ∧ KeepsRec B W (w5.setRow bo #[v']) ∧ KeepS (SafeO bo) W (w5.setRow bo #[v']) ∧ w5.heap[bo]? = some (.cells #[v] 22 (0, 0)) := by
  have hz := hg.size
  have hsz := hI.size
  simp only [World.size_alloc] at hz
  have hblk : ∀ k o, W.heap[k]? = some o → v.ownBlock ≠ some k → w5.heap[k]? = some o := fun k o hk hn => by
    have hlt := (Array.getElem?_eq_some_iff.1 hk).1
    exact (hg.block k (by simp; omega) (fun e => hn e.symm)).trans ((heap_alloc_old W _ hlt).trans hk)
  have h6 : ∀ k o, k ≠ bo → W.heap[k]? = some o → v.ownBlock ≠ some k → (w5.setRow bo #[v']).heap[k]? = some o := fun k o hk ho hn => (setRow_other _ _ _ _ hk).trans (hblk k o ho hn)
  have hov : ∀ k, k < B → v.ownBlock ≠ some k := fun k hk e => by have := ownBlock_ge hI.row k e; omega
  have hbo5 := hblk bo _ hI.box (hov bo hbo)
  have hbo6 := setRow_heap w5 bo _ #[v'] _ _ hbo5
  have hc6 : (w5.setRow bo #[v']).cell? ⟨bo, 0, none⟩ = some v' := cell_of_row _ _ _ _ _ _ hbo6
  have hcv : W.cell? ⟨bo, 0, none⟩ = some v := cell_of_row _ _ _ _ _ _ hI.box
  have hsafe : ∀ k, k < W.heap.size → SafeO bo W k → SafeO bo (w5.setRow bo #[v']) k := fun k hk hs => ⟨hs.1, v', hc6, fun e => by
    obtain ⟨h1, u, h2, h3⟩ := hs
    rw [hcv] at h2
    cases h2
    rcases ho with h | h
    · exact h3 (h.symm.trans e)
    · rw [h] at e; cases e; omega⟩
  have hnb : ∀ k, SafeO bo W k → v.ownBlock ≠ some k := fun k hs => by
    obtain ⟨h1, u, h2, h3⟩ := hs
    rw [hcv] at h2
    cases h2
    exact h3
  have hgs : ∀ x, GS (SafeO bo) x W → GS (SafeO bo) x (w5.setRow bo #[v']) := fun x h => NdS.imp h (fun b hb => ⟨hsafe b hb.2 hb.1, by have := hb.2; simp; omega⟩) fun b o u hb hu => by
    obtain ⟨c, e, f, hk⟩ := cell_cells hu
    rw [World.cell?_of_block ((h6 b _ hb.1.1 hk (hnb b hb.1)).trans hk.symm)]
    exact hu
  refine ⟨⟨by simp [hI.vals], hbo6, h6 bm _ hne hI.lim (hov bm hbm), ?_, fun x hm => ?_, by simp; omega, ?_⟩, ⟨by simp; omega, fun k o hB hk hr => ?_⟩, ⟨by simp; omega, fun k c e f hk hs => ⟨h6 k _ hs.1 hk (hnb k hs), hsafe k (Array.getElem?_eq_some_iff.1 hk).1 hs⟩⟩, hbo5⟩
  · have := row_at hown (w' := w5.setRow bo #[v']) fun g c hg' hc => (setRow_other _ _ _ _ (fun e => by have := ownBlock_ge hown g hg'; omega)).trans hc
    simpa using this
  · rcases List.mem_append.1 hm with hm | hm
    · exact hgs x (hI.nds x hm)
    · simp at hm; subst hm; exact hgs _ hx
  · refine hI.keep.trans ⟨hg.os, hg.tape, hg.output, by simp; omega, fun k hk => ?_⟩
    have hlt := hI.keep.size
    have hlk : k < W.heap.size := by omega
    exact (h6 k _ (by omega) (Array.getElem?_eq_getElem hlk) (hov k (by omega))).trans (Array.getElem?_eq_getElem hlk).symm
  · refine h6 k o (by omega) hk fun e => ?_
    obtain ⟨c, hc⟩ := ownBlock_lt hI.row k e
    rw [hk] at hc
    cases hc
    cases hr

/-- What All hands back: rows that show the nodes. -/
def AllOut (ns : List Nd) (w : World) (e : Ending) (w' : World) : Prop :=
  ∃ (v : Value) (vs : List (Array Value)), e = .returned v ∧ vs.length = ns.length ∧ w'.ownsRow w.heap.size 37 17 v ns.length (vs.flatMap Array.toList) ∧ (∀ (j : Nat) (cs : Array Value), vs[j]? = some cs → ∃ n, ns[j]? = some n ∧ NdS (· < w'.heap.size) w' (.agg cs) n) ∧ Below w.heap.size w w'

theorem allOut_of {B bo bm : Nat} {w : World} {most : Nat} {pre : List (Value × Nd)} {vs : List (Array Value)} {v : Value} {W : World} (hI : AllI B bo bm w most pre vs v W) (hw : w.heap.size ≤ B) {ns : List Nd} (hn : pre.map (·.2) = ns) : AllOut ns w (.returned v) W := by
  subst hn
  have hl : vs.length = pre.length := by simpa using (congrArg List.length hI.vals).symm
  refine ⟨v, vs, rfl, by simp [hl], by simpa using ownsRow_base_a hI.row hw, fun j cs hj => ?_, hI.keep⟩
  have hjl := (List.getElem?_eq_some_iff.1 hj).1
  have hjp : j < pre.length := by omega
  refine ⟨pre[j].2, by simp [hjp], ?_⟩
  have h1 : pre[j].1 = .agg cs := by
    have := congrArg (·[j]?) hI.vals
    simpa [hjp, hj] using this
  have := hI.nds pre[j] (List.getElem_mem hjp)
  unfold GS at this
  rw [h1] at this
  exact this.imp (fun b hb => hb.2) fun _ _ _ _ h => h

theorem told_not_nil (c : Array Value) (W : World) : (binOp .eql 30 (.func (.func 66) #[] c) .nilFunc).run Tryd.prog W = .ok (.bool false) W := by kernel_rfl

def AllR (bo bm B : Nat) (w : World) (most : Nat) (pre : List (Value × Nd)) (W : World) : Prop := ∃ vs v, AllI B bo bm w most pre vs v W ∧ pre.length ≤ most
def AllX (bo bm B : Nat) (w : World) (most : Nat) (c : Code) (pre : List (Value × Nd)) (W : World) : Prop := c = .exit 0 ∧ ∃ vs v, AllI B bo bm w most pre vs v W ∧ pre.length = most + 1
def AllA (fr : Value → Value → Act) (x : Value × Nd) (a' : Act) (W : World) : Prop := ∃ (bl : Nat) (cs : Array Value), x.1 = .agg cs ∧ W.heap[bl]? = some (.cells cs 37 (0, 0)) ∧ a' = fr (.pointer (some ⟨bl, 0, none⟩)) (.agg cs)

set_option maxHeartbeats 4000000 in
theorem lall_any (S : Nat → Prop) (w : World) (bt : Nat) (M : List (Key × Nd)) (N : Nat) (hT : TreeAt S w bt M N) (most : Nat) (hmost : most < maxLen) (hks : M.length * 168 ≤ 140737488355328) (hkl : ∀ k ∈ M.map (·.1), k.length ≤ maxLen) :
    Calls Tryd.prog 12 #[.pointer (some ⟨bt, 0, none⟩), .int .i64 most] w (AllOut ((nodesOf M (M.map (·.1))).take (most + 1)) w) := by
  have HT := Lib.hid hT
  clear hT
  refine (callsIn_wide (n := 6)).1 (callsIn_of_wp_marks Tryd.func12 rfl trivial ?_)
  simp only [Tryd.ntmps12, List.size_toArray, List.length_cons, List.length_nil, Nat.reduceAdd, Nat.reduceSub, Array.replicate_succ, Array.replicate_zero, List.push_toArray, List.append_toArray, List.nil_append, List.cons_append]
  gi_wp2_with fail
  refine ⟨trivial, (callsIn_wide.2 (tall_any bt _)).mono ?_⟩
  rintro e W1 ⟨bw, btb, rfl, hcw, hct, hE1⟩
  have hbx : ((w.alloc (.cells #[.int .i64 most] 3)).alloc (.cells #[.slice none 0 0] 22)).heap[w.heap.size + 1]? = some (.cells #[.slice none 0 0] 22 (0, 0)) := by
    have := heap_alloc_new (w.alloc (.cells #[.int .i64 most] 3)) (.cells #[.slice none 0 0] 22)
    rwa [World.size_alloc] at this
  have hbm : ((w.alloc (.cells #[.int .i64 most] 3)).alloc (.cells #[.slice none 0 0] 22)).heap[w.heap.size]? = some (.cells #[.int .i64 most] 3 (0, 0)) :=
    (heap_alloc_old _ _ (by simp)).trans (heap_alloc_new w _)
  have hbx1 := (hE1.block _ (Array.getElem?_eq_some_iff.1 hbx).1).trans hbx
  have hbm1 := (hE1.block _ (Array.getElem?_eq_some_iff.1 hbm).1).trans hbm
  have hEw : Ext w W1 := ((Ext.alloc w _).trans (Ext.alloc _ _)).trans hE1
  have hz1 := hE1.size
  simp only [World.size_alloc] at hz1
  have hT1 := HT.out.ext hEw
  have hbd := HT.out.bound
  have hI0 : AllI W1.heap.size (w.heap.size + 1) w.heap.size w most [] [] (.slice none 0 0) W1 :=
    ⟨rfl, hbx1, hbm1, World.ownsRow_nil _ _ _ _, by simp, Nat.le_refl _, hEw⟩
  have hs1 : ∀ k, S k → SafeO (w.heap.size + 1) W1 k := fun k hk => ⟨by have := hbd k hk; omega, _, cell_of_row _ _ _ _ _ _ hbx1, by simp [Value.ownBlock]⟩
  have hOk := hT1.ok
  have TT := told_tells (SafeO (w.heap.size + 1)) S W1 bt M N hT1 hs1 bw btb 46 #[.pointer (some ⟨bt, 0, none⟩)] #[] hcw hct (enters_of Tryd.func46 (by kernel_rfl) rfl) (M.map (·.1))
    (fun W hW => by simpa using tsorted_any S W bt M N (hT1.ext hW) (by omega)) (by simpa using hks) hkl
  have TT := Lib.hid TT
  have hnn := told_not_nil #[.pointer (some ⟨bw, 0, none⟩), .pointer (some ⟨btb, 0, none⟩)] W1
  have HI0 := Lib.hid hI0
  clear hbx hbm hbx1 hbm1 hE1 hT1 hbd hs1 hI0 hcw hct HT hEw
  gi_wp2
  refine wpIn_tells rfl (by omega) (gf := 66) (lb := #[.pointer (some ⟨bw, 0, none⟩), .pointer (some ⟨btb, 0, none⟩)]) rfl trivial (enters_of Tryd.func66 (by kernel_rfl) rfl) TT.out (fun _ => rfl)
    (AllR (w.heap.size + 1) w.heap.size W1.heap.size w most) (AllX (w.heap.size + 1) w.heap.size W1.heap.size w most)
    (AllA fun p c => { tmps := #[.pointer (some ⟨bt, 0, none⟩), .int .i64 most, undef, .pointer (some ⟨w.heap.size, 0, none⟩), .slice none 0 0, .pointer (some ⟨w.heap.size + 1, 0, none⟩), .func (.func 66) #[] #[.pointer (some ⟨bw, 0, none⟩), .pointer (some ⟨btb, 0, none⟩)], p, .pointer (some ⟨bt, 0, none⟩), .func (.func 66) #[] #[.pointer (some ⟨bw, 0, none⟩), .pointer (some ⟨btb, 0, none⟩)], .func (.func 66) #[] #[.pointer (some ⟨bw, 0, none⟩), .pointer (some ⟨btb, 0, none⟩)], .bool false, .func (.func 66) #[] #[.pointer (some ⟨bw, 0, none⟩), .pointer (some ⟨btb, 0, none⟩)], c, undef, undef, undef, undef, undef, undef, undef, undef, undef], defers := [] })
    (fun A X Y B h1 h2 h3 => keepS_turn h1 h2 h3) ?hI ?hIx (fun x X Y h1 h2 => gs_turn h1 h2) ?hAx ⟨[], _, HI0.out, Nat.zero_le _⟩ ?assign ?body ?done ?stop
  case hI =>
    rintro pre X Y ⟨vs, v, h, hl⟩ hT
    obtain ⟨h1, h2, h3⟩ := allI_turn h hT (by omega) (by omega)
    exact ⟨⟨vs, v, h1, hl⟩, h2, h3⟩
  case hIx =>
    rintro c pre X Y ⟨hc, vs, v, h, hl⟩ hT
    exact ⟨hc, vs, v, (allI_turn h hT (by omega) (by omega)).1, hl⟩
  case hAx =>
    rintro x a' X Y ⟨bl, cs, h1, h2, h3⟩ hT
    exact ⟨bl, cs, h1, hT.cells h2, h3⟩
  case assign =>
    rintro l pre ⟨xv, n⟩ W K ⟨vs, v, hI, hl⟩ hG hK
    obtain ⟨da, dc, aa, ac, e, _⟩ := hG
    dsimp only at e
    subst e
    obtain ⟨W2, hW2⟩ : ∃ W2, W2 = W.alloc (.cells (ndC n (.slice da n.data.length dc) (.slice aa n.acl.length ac)) 37) := ⟨_, rfl⟩
    have hax := hK _ W2 (by rw [hW2]; exact Ext.alloc _ _) ⟨W.heap.size, _, rfl, by rw [hW2]; exact heap_alloc_new W _, rfl⟩
    have HSET := Lib.hid ((setRow_alloc W zeroNd (ndC n (.slice da n.data.length dc) (.slice aa n.acl.length ac)) 37).trans hW2.symm)
    have HNew := Lib.hid (heap_alloc_new W (.cells zeroNd 37))
    have HAX := Lib.hid hax
    unfold ndC at HSET HAX ⊢
    unfold zeroNd at HSET HNew
    clear hK hI hW2 hax TT HI0
    gi_wp2_with (refine wpListIn_store_row (fun _ => trivial) rfl 37 (.tmp 7) (.tmp 13) rfl W.heap.size _ rfl rfl 37 _ HNew.out sizeNd rfl (cells_node n da aa _ _ dc ac) ?_; rw [HSET.out])
    exact HAX.out
  case body =>
    rintro l pre ⟨xv, n⟩ a' W hl0 _ ⟨rest, hSp⟩ ⟨vs, v, hI, hl⟩ hG ⟨bl, cs, e, hbl, rfl⟩
    dsimp only at e
    subst e
    have hG2 := hG
    obtain ⟨da, dc, aa, ac, e, _⟩ := hG
    simp only [Value.agg.injEq] at e
    subst e
    have hpl : pre.length + 1 ≤ M.length := by
      have := congrArg List.length hSp
      simp [nodesOf] at this
      omega
    have hv : W.cell? ⟨w.heap.size + 1, 0, none⟩ = some v := cell_of_row _ _ _ _ _ _ hI.box
    have hs17 : Cells (W.alloc (.cells (ndC n (.slice da n.data.length dc) (.slice aa n.acl.length ac)) 37)).heap.size (W.alloc (.cells (ndC n (.slice da n.data.length dc) (.slice aa n.acl.length ac)) 37)) (some ⟨W.heap.size, 0, none⟩) (ndC n (.slice da n.data.length dc) (.slice aa n.acl.length ac)).toList := fun j u hj => by
      refine ⟨_, 0, rfl, by simp, ?_⟩
      rw [Nat.zero_add, cell_of_row _ _ _ _ _ _ (heap_alloc_new W _)]
      simpa using hj
    have hsrc : Src Tryd.prog 17 22 (.slice (some ⟨W.heap.size, 0, none⟩) 1 1) 1 (ndC n (.slice da n.data.length dc) (.slice aa n.acl.length ac)).toList (W.alloc (.cells (ndC n (.slice da n.data.length dc) (.slice aa n.acl.length ac)) 37)) :=
      hs17.src Tryd.underlying22 1 1 (by simp [ndC]) (fun u hu => by
        have := cells_node n da aa n.data.length n.acl.length dc ac
        rw [← Array.all_toList] at this
        exact List.all_eq_true.1 this u hu)
    obtain ⟨i0, hi, hz0, hz1', hz2⟩ := info_parts infoNd
    have hownA := hI.row.alloc (.cells (ndC n (.slice da n.data.length dc) (.slice aa n.acl.length ac)) 37)
    have hszB := hI.size
    have HI := Lib.hid hI
    have HG := Lib.hid hG2
    have HBL := Lib.hid hbl
    unfold ndC at hsrc hownA HBL
    clear hs17 TT HI0 hI hG2 hbl
    gi_wp2_with (first | (refine wpListIn_load_row (fun _ => trivial) rfl 37 (.tmp 7) rfl bl rfl 37 _ (0, 0) _ HBL.out Tryd.underlying37 rfl sizeNd ?_) | (gi_at_builtin; refine wpListIn_append_src (fun _ => trivial) rfl (.tmp 14) (.tmp 16) 22 22 rfl W1.heap.size 37 i0 (.agg zeroNd) 17 168 Tryd.underlying22 hi hz0 hz1' hz2 rfl (by decide) _ pre.length _ rfl hownA _ 1 _ rfl hsrc ?c1 ?c2 ?c3 ?_))
    case c1 => unfold maxLen at *; omega
    case c2 => omega
    case c3 => first | omega | (simp; omega)
    intro v' w5 hown5 hg5 _ ho5
    rw [show [Value.string n.path, .slice da n.data.length dc, .slice aa n.acl.length ac, .int .i64 n.owner, .int .i64 n.czxid, .int .i64 n.mzxid, .int .i64 n.pzxid, .int .i64 n.azxid, .int .i64 n.qzxid, .int .i64 n.ctime, .int .i64 n.mtime, .int .i32 n.version, .int .i32 n.creates, .int .i32 n.aversion, .bool n.has, .int .i64 n.count, .int .i64 n.bytes] = (ndC n (.slice da n.data.length dc) (.slice aa n.acl.length ac)).toList from rfl] at hown5
    obtain ⟨hI6, hR6, hK6, hbo5⟩ := allI_step HI.out (by omega) (by omega) (by omega) (by omega) HG.out hown5 hg5 ho5
    obtain ⟨la, lc, rfl, _⟩ := ownsRow_from hown5
    have hv6 : (w5.setRow (w.heap.size + 1) #[.slice la (pre.length + 1) lc]).cell? ⟨w.heap.size + 1, 0, none⟩ = some (.slice la (pre.length + 1) lc) := cell_of_row _ _ _ _ _ _ hI6.box
    have hm6 : (w5.setRow (w.heap.size + 1) #[.slice la (pre.length + 1) lc]).cell? ⟨w.heap.size, 0, none⟩ = some (.int .i64 most) := cell_of_row _ _ _ _ _ _ hI6.lim
    obtain ⟨W6, hW6⟩ : ∃ W6, W6 = w5.setRow (w.heap.size + 1) #[.slice la (pre.length + 1) lc] := ⟨_, rfl⟩
    rw [← hW6] at hv6 hm6 hI6 hR6 hK6
    have HW6 := Lib.hid hW6
    have HB5 := Lib.hid hbo5
    have HI6 := Lib.hid hI6
    have HR6 := Lib.hid hR6
    have HK6 := Lib.hid hK6
    clear hW6 hbo5 hI6 hR6 hK6 hown5 hg5 ho5 hsrc hownA hv
    refine wpListIn_skipped (fun _ => trivial) rfl (fun c h => by cases h) (run_store_one 22 (.tmp 5) (.tmp 17) rfl (w.heap.size + 1) (.slice la (pre.length + 1) lc) rfl rfl rfl 22 v HB5.out infoSl) ?_
    rw [← HW6.out]
    gi_wp2
    · exact ⟨HR6.out, rfl, _, _, HI6.out, by simp; omega⟩
    · exact ⟨HR6.out, HK6.out, _, _, HI6.out, by simp; omega⟩
  case done =>
    rintro D xs W hD hS ⟨vs, v, hI, hl⟩ hK
    have hv : W.cell? ⟨w.heap.size + 1, 0, none⟩ = some v := cell_of_row _ _ _ _ _ _ hI.box
    have hfin := allOut_of (allI_turn hI (Turn.putObj (.deferred none) hD hK rfl) (by omega) (by omega)).1 (by omega) hS
    rw [← List.take_of_length_le (l := nodesOf M (M.map (·.1))) (i := most + 1) (by rw [← hS]; simp; omega)] at hfin
    have HFIN := Lib.hid hfin
    have HK := Lib.hid hK
    clear hfin hK hI hS TT HI0
    gi_wp2
    refine ⟨by simp, .inl ⟨_, _, rfl, run_takeDeferred HK.out, ?_⟩⟩
    refine ⟨_, results_tmp rfl _ _ _, ?_⟩
    exact HFIN.out
  case stop =>
    rintro D c pre W hD ⟨rest, hS⟩ ⟨rfl, vs, v, hI, hl⟩ hK
    have hv : W.cell? ⟨w.heap.size + 1, 0, none⟩ = some v := cell_of_row _ _ _ _ _ _ hI.box
    have hfin := allOut_of (allI_turn hI (Turn.putObj (.deferred none) hD hK rfl) (by omega) (by omega)).1 (by omega) (ns := (nodesOf M (M.map (·.1))).take (most + 1)) (by rw [← hS, List.take_append_of_le_length (by simp [hl]), List.take_of_length_le (by simp [hl])])
    have HFIN := Lib.hid hfin
    have HK := Lib.hid hK
    clear hfin hK hI hS TT HI0
    gi_wp2
    refine ⟨by simp, .inl ⟨_, _, rfl, run_takeDeferred HK.out, ?_⟩⟩
    refine ⟨_, results_tmp rfl _ _ _, ?_⟩
    exact HFIN.out
end Go.Proofs.YtfgjbcejpjcpeaaDoor
