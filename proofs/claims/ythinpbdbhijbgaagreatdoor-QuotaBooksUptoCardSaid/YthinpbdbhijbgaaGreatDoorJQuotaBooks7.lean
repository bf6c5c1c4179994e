/- The walk of the function that a tree's nodes are told by: what each round is handed, what it keeps. Arms for a walk within a fence, a round's too. The walk of the law's All: a range over a tree's nodes. The walk of Count. The walk of the law's own small tree. A range over a tree's nodes: the loop variable in a box of its own. Plain laws: when two structs are equal, as the model has it. The walks of the reference's look whether two nodes are alike. What the rounds of TreeWalks keep. Small laws on memory: a store into the middle of a row; what changes but for a set of blocks; an append to a row of the call's own, in a region that draws. Rows that show nodes: what they hold, their first places and those behind them, rows of the call's own; a slice of a slice. -/
import Derived.Test.YthinpbdbhijbgaaGreatDoorJQuotaBooks6
import Derived.TacticsIn
import Derived.Deep.CutBlock
import Derived.Test.YthinpbdbhijbgaaGreatDoorJQuotaBooks4
import Derived.OrdersIn
import Derived.RangeFuncLeaves
import Derived.OwnWalkIn
import Derived.TacticsInMore
import Derived.Great.BuildSlice
import Derived.Test.YthinpbdbhijbgaaGreatDoorJQuotaBooks5
import Derived.Test.YthinpbdbhijbgaaGreatDoorJQuotaBooks2
import Derived.Deep.RegionLaw
namespace Go.Proofs.YthinpbdbhijbgaaGreatDoor
open Go.RowKit Go.Sort
set_option maxHeartbeats 2000000
set_option maxRecDepth 100000

section
variable {P : Program} {n : Nat} {o : Oper} {a : Act} {w : World} {K : Act → World → Prop} {Q : Exit → Act → World → Prop}
theorem operIn_value {w' : World} {v : Value} (h : (execOp a.eval o).run P w = .ok (.value v) w') (hK : K (a.put o.dst v) w') : o.wpIn Fence.wide n P a w K Q := by
  refine ⟨fun _ _ => trivial, ?_⟩
  rw [show (o.semAt Fence.wide.round a.eval) = execOp a.eval o from rfl, h]
  exact hK
theorem operIn_enter {f : FuncId} {args : Array Value} {R : Ending → World → Prop} (h : (execOp a.eval o).run P w = .ok (.enter f args) w) (hc : Calls P f args w R) (hR : ∀ e w', R e w' → ∃ v, e = .returned v ∧ K (a.put o.dst v) w') : o.wpIn Fence.wide n P a w K Q := by
  refine ⟨fun _ _ => trivial, ?_⟩
  rw [show (o.semAt Fence.wide.round a.eval) = execOp a.eval o from rfl, h]
  refine ⟨(fun h => by cases h), callsIn_wide.2 (hc.mono fun e w' hr => ?_)⟩
  obtain ⟨v, rfl, hk⟩ := hR e w' hr
  exact hk
theorem operIn_round {l f : Nat} {tmps : Array Value} {assign body : Code} {R : Ending → World → Prop} (h : (execOp a.eval o).run P w = .ok (.round l f tmps assign body) w) (hc : RoundIn Fence.wide (n - 1) P l f tmps assign body w R) (hR : ∀ e w', R e w' → ∃ v, e = .returned v ∧ K (a.put o.dst v) w') : o.wpIn Fence.wide n P a w K Q := by
  refine ⟨fun _ _ => trivial, ?_⟩
  rw [show (o.semAt Fence.wide.round a.eval) = execOp a.eval o from rfl, h]
  refine ⟨(fun h => by cases h), hc.mono fun e w' hr => ?_⟩
  obtain ⟨v, rfl, hk⟩ := hR e w' hr
  exact hk
theorem ex_yield {x : Operand} {args : Array Operand} {ts : Array TypeId} {l f : Nat} {tmps : Array Value} {assign body : Code} (ho : o.op = .call { callee := .value x, args := args, argTypes := ts }) (hx : a.eval x = .func (.yield l) #[] #[])
    (hy : (Instr.yield l (args.map a.eval)).run P w = .ok (.round l f tmps assign body) w) : (execOp a.eval o).run P w = .ok (.round l f tmps assign body) w := by
  simp [execOp, ho, resolve, hx, Deferred.ofValue, invoke, hy]
theorem ex_callv {x : Operand} {args : Array Operand} {ts : Array TypeId} {f : FuncId} {bnd cap : Array Value} (ho : o.op = .call { callee := .value x, args := args, argTypes := ts }) (hx : a.eval x = .func (.func f) bnd cap)
    (hen : ∀ args w, (callFunc f args).run P w = .ok (.enter f args) w) : (execOp a.eval o).run P w = .ok (.enter f (bnd ++ args.map a.eval ++ cap)) w := by
  simp [execOp, ho, resolve, hx, Deferred.ofValue, invoke, hen]
end

theorem infoNd : (Tryz.prog.info? 44).map (fun i => (i.zero, i.size, i.bytes)) = some (some (.agg zeroNd), 17, 168) := by kernel_rfl
theorem infoStr : (Tryz.prog.info? 9).map (fun i => (i.zero, i.size, i.bytes)) = some (some (.string ⟨#[]⟩), 1, 16) := by kernel_rfl

/-- What a round keeps: the cells that are safe. -/
def KeepS (Safe : World → Nat → Prop) (W W' : World) : Prop :=
  W.heap.size ≤ W'.heap.size ∧ ∀ k c e f, W.heap[k]? = some (.cells c e f) → Safe W k → W'.heap[k]? = some (.cells c e f) ∧ Safe W' k
/-- What a round is handed: a node, its cells safe. -/
def GS (Safe : World → Nat → Prop) (x : Value × Nd) (W : World) : Prop := NdS (fun b => Safe W b ∧ b < W.heap.size) W x.1 x.2
def nodesOf (M : List (Key × Nd)) (ks : List Key) : List Nd := ks.map fun k => (mget M k).getD zeroN

/-- The blocks that are told from stay and are safe. -/
def Pers (Safe : World → Nat → Prop) (P2 : Nat → Prop) (W2 wr : World) : Prop :=
  W2.heap.size ≤ wr.heap.size ∧ ∀ b c e f, P2 b → W2.heap[b]? = some (.cells c e f) → wr.heap[b]? = some (.cells c e f) ∧ Safe wr b
theorem Pers.ext {Safe : World → Nat → Prop} {P2 : Nat → Prop} {W2 A B : World} (h : Pers Safe P2 W2 A) (he : Ext A B) (hs : ∀ k, Safe A k → Safe B k) : Pers Safe P2 W2 B :=
  ⟨Nat.le_trans h.1 he.size, fun b c e f hb hc => by
    obtain ⟨h1, h2⟩ := h.2 b c e f hb hc
    exact ⟨(he.block b (Array.getElem?_eq_some_iff.1 h1).1).trans h1, hs _ h2⟩⟩
theorem Pers.keep {Safe : World → Nat → Prop} {P2 : Nat → Prop} {W2 A B : World} (h : Pers Safe P2 W2 A) (hk : KeepS Safe A B) : Pers Safe P2 W2 B :=
  ⟨Nat.le_trans h.1 hk.1, fun b c e f hb hc => by
    obtain ⟨h1, h2⟩ := h.2 b c e f hb hc
    exact hk.2 b c e f h1 h2⟩
theorem Pers.cell {Safe : World → Nat → Prop} {P2 : Nat → Prop} {W2 A : World} (h : Pers Safe P2 W2 A) {b o : Nat} {u : Value} (hb : P2 b) (hu : W2.cell? ⟨b, o, none⟩ = some u) : A.cell? ⟨b, o, none⟩ = some u := by
  obtain ⟨c, e, f, hk⟩ := cell_cells hu
  rw [World.cell?_of_block ((h.2 b c e f hb hk).1.trans hk.symm)]
  exact hu

theorem flat17 : ∀ (vs : List (Array Value)) (i : Nat) (cs : Array Value), (∀ x ∈ vs, x.size = 17) → vs[i]? = some cs → ∀ j u, cs[j]? = some u → (vs.flatMap Array.toList)[i * 17 + j]? = some u
  | [], i, cs, _, h, _, _, _ => by simp at h
  | x :: vs, 0, cs, hs, h, j, u, hj => by
    simp at h
    subst h
    have hx := hs x (by simp)
    have hjl := (Array.getElem?_eq_some_iff.1 hj).1
    rw [List.flatMap_cons, Nat.zero_mul, Nat.zero_add, List.getElem?_append_left (by simpa using hjl)]
    simpa using hj
  | x :: vs, i + 1, cs, hs, h, j, u, hj => by
    have hx := hs x (by simp)
    rw [List.flatMap_cons, List.getElem?_append_right (by simp [hx]; omega)]
    have := flat17 vs i cs (fun y hy => hs y (by simp [hy])) (by simpa using h) j u hj
    rw [show (i + 1) * 17 + j - x.toList.length = i * 17 + j by simp [hx]; omega]
    exact this

theorem ownBlock_ge {w : World} {base e size n : Nat} {v : Value} {xs : List Value} (h : w.ownsRow base e size v n xs) (k : Nat) (hk : v.ownBlock = some k) : base ≤ k := by
  rcases h.2 with ⟨rfl, _⟩ | ⟨g, cap, cur, rfl, hb, _⟩
  · simp [Value.ownBlock] at hk
  · simp [Value.ownBlock] at hk; omega

set_option maxHeartbeats 4000000 in
theorem told_tells (Safe : World → Nat → Prop) (S0 : Nat → Prop) (w : World) (bt : Nat) (M : List (Key × Nd)) (N : Nat) (hT : TreeAt S0 w bt M N) (hsafe : ∀ k, S0 k → Safe w k) (bw btb fw : Nat) (bnd cap : Array Value)
    (hcw : w.cell? ⟨bw, 0, none⟩ = some (.func (.func fw) bnd cap)) (hct : w.cell? ⟨btb, 0, none⟩ = some (.pointer (some ⟨bt, 0, none⟩)))
    (hen : ∀ args w, (callFunc fw args).run Tryz.prog w = .ok (.enter fw args) w) (ks : List Key) (hw : ∀ W, Ext w W → Calls Tryz.prog fw (bnd ++ cap) W (SortedOut ks W)) (hks : ks.length * 168 ≤ 140737488355328) (hkl : ∀ k ∈ ks, k.length ≤ maxLen) :
    Tells Fence.wide 5 Tryz.prog 195 #[.pointer (some ⟨bw, 0, none⟩), .pointer (some ⟨btb, 0, none⟩)] (fun x : Value × Nd => #[x.1]) (GS Safe) (KeepS Safe) Safe
      (fun xs => xs.map (·.2) = nodesOf M ks) (fun pre => ∃ rest, pre.map (·.2) ++ rest = nodesOf M ks) w := by
  intro l J Jx W hW hSW hJ hY h0
  refine callsIn_wide.2 ?_
  have hTW := hT.ext hW
  have hbnd := hT.bound
  have hbtl := hT.bound
  have hcwW : W.cell? ⟨bw, 0, none⟩ = some (.func (.func fw) bnd cap) := (hW.cell (p := ⟨bw, 0, none⟩) (World.block_lt_of_cell? _ _ hcw)).trans hcw
  have hctW : W.cell? ⟨btb, 0, none⟩ = some (.pointer (some ⟨bt, 0, none⟩)) := (hW.cell (p := ⟨btb, 0, none⟩) (World.block_lt_of_cell? _ _ hct)).trans hct
  have hbtlt : btb < W.heap.size := World.block_lt_of_cell? _ _ hctW
  have CW := hw W hW
  have HY := Lib.hid hY
  have HJ := Lib.hid hJ
  have HT := Lib.hid hTW
  have CW := Lib.hid CW
  have HSW := Lib.hid hSW
  have HSafe := Lib.hid hsafe
  clear hcw hct hT hw hY hJ hTW hSW hsafe
  go_enter Tryz.func195, Tryz.ntmps195
  go_wp2_with fail
  refine CW.out.mono ?_
  rintro e W1 ⟨v, rfl, hrow, hnil, hE1⟩
  obtain ⟨sa, sc, rfl, hcs⟩ := ownsRow_cells hrow
  have hT1 := HT.out.ext hE1
  have hz1 := hE1.size
  have hct1 : W1.cell? ⟨btb, 0, none⟩ = some (.pointer (some ⟨bt, 0, none⟩)) := (hE1.cell (p := ⟨btb, 0, none⟩) hbtlt).trans hctW
  have hlen : ks.length ≤ 9223372036854775807 := by omega
  clear CW hrow hnil hcwW hctW
  go_wp2
  go_loopw [4, 12] (fun lv i wr => ∃ (k : Nat) (vs : List (Array Value)), k ≤ ks.length ∧ i = .int .i64 k ∧ vs.length = k ∧ wr.ownsRow W1.heap.size 44 17 lv k (vs.flatMap Array.toList) ∧ Ext W1 wr ∧ (∀ x ∈ vs, x.size = 17) ∧ Hid (∀ (j : Nat) (cs : Array Value), vs[j]? = some cs → ∃ n, (nodesOf M ks)[j]? = some n ∧ NdS S0 W1 (.agg cs) n)) (fun _ i _ => ks.length - (intOf i).toNat)
  case atStart => exact ⟨0, [], Nat.zero_le _, rfl, rfl, World.ownsRow_nil _ _ _ _, Ext.refl _, by simp, by unfold Hid; simp⟩
  case round =>
    obtain ⟨k, vs, hk, rfl, hvl, hown, hEr, hv17, HV⟩ := hrel
    by_cases hlt : k < ks.length
    · obtain ⟨b, off, rfl, hb, hc⟩ := hcs k (encStr ks[k]) (by rw [List.getElem?_map, List.getElem?_eq_getElem hlt]; rfl)
      have hcr : wr.cell? ⟨b, off + k, none⟩ = some (encStr ks[k]) := (hEr.cell (p := ⟨b, off + k, none⟩) hb).trans hc
      have hkz : (⟨ks[k].toArray⟩ : ByteArray).size ≤ maxLen := by
        have := hkl ks[k] (List.getElem_mem hlt)
        rw [← size_list]; simpa using this
      have hTr := hT1.ext hEr
      obtain ⟨bn, bk, K, hd, hNd, hKd⟩ := hTr
      have hx := TreeAt.box hd
      obtain ⟨vv, hvv, _, hq⟩ := hNd.look' ⟨ks[k].toArray⟩ hkz
      rw [key_back] at hvv
      have hvv1 : NdS S0 W1 vv ((mget M ks[k]).getD zeroN) := hvv.imp (fun _ h => h) (fun b o u hb hu => (hEr.cell (p := ⟨b, o, none⟩) (hT1.bound b hb)).symm.trans hu)
      obtain ⟨da, dc, aa, ac, rfl, _⟩ := hvv
      generalize hn : (mget M ks[k]).getD zeroN = n at *
      have hsnoc : (vs ++ [ndC n (.slice da n.data.length dc) (.slice aa n.acl.length ac)]).flatMap Array.toList = vs.flatMap Array.toList ++ (ndC n (.slice da n.data.length dc) (.slice aa n.acl.length ac)).toList := by simp
      have HV2 : Hid (∀ (j : Nat) (cs : Array Value), (vs ++ [ndC n (.slice da n.data.length dc) (.slice aa n.acl.length ac)])[j]? = some cs → ∃ n, (nodesOf M ks)[j]? = some n ∧ NdS S0 W1 (.agg cs) n) := by
        intro j cs hj
        by_cases hjk : j < vs.length
        · rw [List.getElem?_append_left hjk] at hj
          exact HV.out j cs hj
        · rw [List.getElem?_append_right (by omega)] at hj
          have hj0 : j = vs.length := by
            have := (List.getElem?_eq_some_iff.1 hj).1
            simp at this; omega
          subst hj0
          simp at hj
          subst hj
          refine ⟨n, ?_, hvv1⟩
          unfold nodesOf
          rw [List.getElem?_map, hvl, List.getElem?_eq_getElem hlt, Option.map_some, hn]
      have hct : wr.cell? ⟨btb, 0, none⟩ = some (.pointer (some ⟨bt, 0, none⟩)) := (hEr.cell (p := ⟨btb, 0, none⟩) (show btb < W1.heap.size by omega)).trans hct1
      have hs17 : Cells (wr.alloc (.cells (ndC n (.slice da n.data.length dc) (.slice aa n.acl.length ac)) 44)).heap.size (wr.alloc (.cells (ndC n (.slice da n.data.length dc) (.slice aa n.acl.length ac)) 44)) (some ⟨wr.heap.size, 0, none⟩) (ndC n (.slice da n.data.length dc) (.slice aa n.acl.length ac)).toList := fun j u hj => by
        refine ⟨_, 0, rfl, by simp, ?_⟩
        rw [Nat.zero_add, cell_of_row _ _ _ _ _ _ (heap_alloc_new wr _)]
        simpa using hj
      have hsrc : Src Tryz.prog 17 50 (.slice (some ⟨wr.heap.size, 0, none⟩) 1 1) 1 (ndC n (.slice da n.data.length dc) (.slice aa n.acl.length ac)).toList (wr.alloc (.cells (ndC n (.slice da n.data.length dc) (.slice aa n.acl.length ac)) 44)) :=
        hs17.src Tryz.underlying50 1 1 (by simp [ndC]) (fun u hu => by
          have := cells_node n da aa n.data.length n.acl.length dc ac
          rw [← Array.all_toList] at this
          exact List.all_eq_true.1 this u hu)
      obtain ⟨i0, hi, hz0, hz1', hz2⟩ := info_parts infoNd
      have hownA := hown.alloc (.cells (ndC n (.slice da n.data.length dc) (.slice aa n.acl.length ac)) 44)
      have hzr := hEr.size
      have HSN := Lib.hid hsnoc
      unfold Box treeC at hx
      unfold ndC at hq hsrc hownA
      clear hsnoc hd hNd hKd hs17 hvv1 hcs hn hc HV
      go_wp2_with (at_builtin; refine wpList_append_src _ rfl (.tmp 16) (.tmp 23) 50 50 rfl W1.heap.size 44 i0 (.agg zeroNd) 17 168 Tryz.underlying50 hi hz0 hz1' hz2 rfl (by decide) _ k _ rfl hownA _ 1 _ rfl hsrc ?c1 ?c2 ?c3 ?_)
      case c1 => unfold maxLen; omega
      case c2 => omega
      case c3 => first | omega | (simp; omega)
      intro v' w5 hown5 hg5 _ _
      have hE5 : Ext W1 w5 := (Below.alloc hEr hzr _).grown hg5 (by simp; omega) (fun g hg => ownBlock_ge hown g hg)
      rw [show [Value.string n.path, .slice da n.data.length dc, .slice aa n.acl.length ac, .int .i64 n.owner, .int .i64 n.czxid, .int .i64 n.mzxid, .int .i64 n.pzxid, .int .i64 n.azxid, .int .i64 n.qzxid, .int .i64 n.ctime, .int .i64 n.mtime, .int .i32 n.version, .int .i32 n.creates, .int .i32 n.aversion, .bool n.has, .int .i64 n.count, .int .i64 n.bytes] = (ndC n (.slice da n.data.length dc) (.slice aa n.acl.length ac)).toList from rfl, ← HSN.out] at hown5
      have HO5 := Lib.hid hown5
      clear hown5 hg5 hown hownA hsrc hEr hcr hct hx hq
      go_wp2
      go_roundw
      case rel =>
        refine ⟨k + 1, _, by omega, by go_num, by simp [hvl], HO5.out, hE5, fun x hx => ?_, HV2⟩
        rcases List.mem_append.1 hx with hx | hx
        · exact hv17 x hx
        · simp at hx; subst hx; rfl
      case measure => simp [intOf]; omega
    · obtain rfl : k = ks.length := by omega
      obtain ⟨la, lc, rfl, hrows⟩ := ownsRow_from hown
      have hJ2 := HJ.out [] W wr h0 (hE1.trans hEr)
      obtain ⟨hJ0, hSm, hSn⟩ := hJ2
      obtain ⟨W2, hW2⟩ : ∃ W2, W2 = wr := ⟨_, rfl⟩
      have hP0 : Pers Safe (fun b => S0 b ∨ W1.heap.size ≤ b) W2 wr := by
        rw [hW2]
        refine ⟨Nat.le_refl _, fun b c e f hb hc => ⟨hc, ?_⟩⟩
        rcases hb with hb | hb
        · exact hSm b (HSW.out b (hbnd b hb) (HSafe.out b hb))
        · exact hSn b (by omega)
      rw [← hW2] at hrows hEr
      clear hW2 hSm hSn hown h0 hcs hct1 HSW HSafe HT hW
      have hvs : ∀ (k : Nat), k < ks.length → ∃ (n : Nd) (da : Option Addr) (dc : Nat) (aa : Option Addr) (ac : Nat), (nodesOf M ks)[k]? = some n ∧ vs[k]? = some (ndC n (.slice da n.data.length dc) (.slice aa n.acl.length ac)) ∧ CellsS S0 W1 da (n.data.map u8v) ∧ CellsS S0 W1 aa (acCs n.acl) ∧ Fit n := fun k hk => by
        have hvk : vs[k]? = some (vs[k]'(by omega)) := List.getElem?_eq_getElem (by omega)
        obtain ⟨n, hn, da, dc, aa, ac, e, h1, h2⟩ := HV.out k _ hvk
        refine ⟨n, da, dc, aa, ac, hn, ?_, h1, h2, ?_⟩
        · rw [hvk]; simp only [Value.agg.injEq] at e; rw [e]
        · unfold nodesOf at hn
          rw [List.getElem?_map, List.getElem?_eq_getElem hk] at hn
          simp at hn
          rw [← hn]
          obtain ⟨_, _, _, _, hNd, _⟩ := hT1
          exact hNd.ok.fit _
      have HVS := Lib.hid hvs
      have HRows := Lib.hid hrows
      have HEr := Lib.hid hEr
      have hnl : (nodesOf M ks).length = ks.length := by simp [nodesOf]
      have HNL := Lib.hid hnl
      have H17 := Lib.hid hv17
      clear hvs hrows hEr hv17 HV hnl hE1 hvl
      go_wp2
      go_loopw [28] (fun i wt => ∃ (k : Nat) (pre : List (Value × Nd)), k ≤ ks.length ∧ i = .int .i64 k ∧ Hid (pre.map (·.2) = (nodesOf M ks).take k) ∧ J pre wt ∧ Pers Safe (fun b => S0 b ∨ W1.heap.size ≤ b) W2 wt) (fun i _ => ks.length - (intOf i).toNat)
      case atStart => exact ⟨0, [], Nat.zero_le _, rfl, rfl, hJ0, hP0⟩
      case round =>
        obtain ⟨k, pre, hk, rfl, HPre, hJk, hPk⟩ := hrel
        by_cases hlt : k < ks.length
        · obtain ⟨n, da, dc, aa, ac, hn, hv, hD, hA, hfit⟩ := HVS.out k hlt
          have hfl := flat17 vs k _ H17.out hv
          obtain ⟨g, off, rfl, _, _, _⟩ := HRows.out (k * 17 + 0) _ (hfl 0 (.string n.path) rfl)
          have hcw : ∀ j u, (ndC n (.slice da n.data.length dc) (.slice aa n.acl.length ac))[j]? = some u → wr.cell? ((⟨g, off + k * 17, none⟩ : Addr).add j) = some u := fun j u hj => by
            obtain ⟨g', off', e, h1, h2, h3⟩ := HRows.out (k * 17 + j) u (hfl j u hj)
            simp only [Option.some.injEq, Addr.mk.injEq, and_true] at e
            obtain ⟨rfl, rfl⟩ := e
            rw [addr_add, Nat.add_assoc]
            exact hPk.cell (.inr h1) h3
          obtain ⟨W4, hW4⟩ : ∃ W4, W4 = wr.alloc (.cells (ndC n (.slice da n.data.length dc) (.slice aa n.acl.length ac)) 44) := ⟨_, rfl⟩
          have hE4 : Ext wr W4 := by rw [hW4]; exact Ext.alloc _ _
          have hz4 : W4.heap.size = wr.heap.size + 1 := by rw [hW4]; simp
          have hn4 : W4.heap[wr.heap.size]? = some (.cells (ndC n (.slice da n.data.length dc) (.slice aa n.acl.length ac)) 44 (0, 0)) := by rw [hW4]; exact heap_alloc_new wr _
          obtain ⟨hJ4, hSm4, _⟩ := HJ.out pre wr W4 hJk hE4
          have hP4 := hPk.ext hE4 hSm4
          have hcell4 : ∀ (b o : Nat) u, S0 b → W1.cell? ⟨b, o, none⟩ = some u → W4.cell? ⟨b, o, none⟩ = some u := fun b o u hb hu =>
            hP4.cell (.inl hb) ((HEr.out.cell (p := ⟨b, o, none⟩) (hT1.bound b hb)).trans hu)
          have hbz : ∀ b, S0 b → b < W4.heap.size := fun b hb => by
            have := hT1.bound b hb
            have := HEr.out.size
            have := hP4.1
            omega
          have hD4 : Cells W4.heap.size W4 da (n.data.map u8v) := (hD.imp (fun _ h => h) hcell4).cells hbz
          have hA4 : Cells W4.heap.size W4 aa (acCs n.acl) := (hA.imp (fun _ h => h) hcell4).cells hbz
          have C4 := sclone_nd n da aa dc ac W4 hfit hD4 hA4
          have HC := Lib.hid hcw
          have HN := Lib.hid hn4
          have HSET := Lib.hid ((setRow_alloc wr zeroNd (ndC n (.slice da n.data.length dc) (.slice aa n.acl.length ac)) 44).trans hW4.symm)
          have HNew := Lib.hid (heap_alloc_new wr (.cells zeroNd 44))
          have HNk := Lib.hid hn
          have C4 := Lib.hid C4
          unfold ndC at HC HN HSET
          unfold zeroNd at HSET HNew
          clear hcw hW4 hn4 hfl hv hD hA hJk hPk hcell4 hD4 hA4 hE4 hSm4 hbz hn
          go_upto_region 9 with (first | (refine wpList_load_at rfl 44 (.tmp 30) rfl _ rfl _ _ HC.out Tryz.underlying44 rfl sizeNd ?_) | (refine wpList_store_row rfl 44 (.tmp 8) (.tmp 31) rfl wr.heap.size _ rfl rfl 44 _ HNew.out sizeNd rfl (cells_node n da aa _ _ dc ac) ?_; rw [HSET.out]))
          rw [put_none]
          refine (wpIn_wide (n := 5)).1 (wpIn_region_list ?_)
          refine wpListIn_plain rfl fun K1 hK1 => operIn_value (ex_move rfl) (hK1 _ _ ?_)
          refine wpListIn_plain rfl fun K2 hK2 => operIn_value (ex_load_row rfl wr.heap.size rfl 44 _ (0, 0) _ HN.out Tryz.underlying44 rfl sizeNd) (hK2 _ _ ?_)
          refine wpListIn_plain rfl fun K3 hK3 => operIn_enter (ex_call rfl (enters_f Tryz.func129 (by kernel_rfl) rfl)) (R := CloneS n W4) (by simp only [List.map_toArray, List.map_cons, List.map_nil]; exact C4.out) ?_
          rintro e W5 ⟨v, rfl, hv, hE5⟩
          refine ⟨_, rfl, hK3 _ _ ?_⟩
          have hq5 := HJ.out pre W4 W5 hJ4 hE5
          have hJ5 := hq5.1
          have hP5 := hP4.ext hE5 hq5.2.1
          have hG5 : GS Safe (v, n) W5 := hv.imp (fun b hb => ⟨hq5.2.2 b hb.1, hb.2⟩) (fun _ _ _ _ h => h)
          have HPre2 : Hid ((pre ++ [(v, n)]).map (·.2) = (nodesOf M ks).take (k + 1)) := by
            unfold Hid
            rw [List.map_append, HPre.out, List.take_add_one, HNk.out]
            rfl
          have hY5 := HY.out pre (v, n) W5 ⟨(nodesOf M ks).drop (k + 1), by rw [HPre2.out, List.take_append_drop]⟩ hJ5 hG5
          clear hq5 hG5 hv HPre
          revert hY5
          rintro ⟨fn, tmps, assign, body, hy, hR⟩
          refine wpListIn_plain rfl fun K4 hK4 => operIn_round (ex_yield rfl rfl (by simp only [List.map_toArray, List.map_cons, List.map_nil]; exact hy)) hR ?_
          rintro e W6 (⟨rfl, hJ6, hKp⟩ | ⟨rfl, hJx6⟩)
          · refine ⟨_, rfl, hK4 _ _ ?_⟩
            refine wpListIn_plain rfl fun K5 hK5 => operIn_value (v := .bool false) (w' := W6) (by kernel_rfl) (hK5 _ _ ?_)
            refine wpListIn_nil ?_
            have hP6 := hP5.keep hKp
            clear hK1 hK2 hK3 hK4 hK5 hy hR hJ5 hP5 hJ4 hP4 C4 HC HN HSET HNew hKp
            simp only [Exit.then, Act.put]
            go_simp
            rename_i hKd
            refine hKd _ _ ?_
            clear hKd
            go_wp2
            go_roundw
            case rel => exact ⟨k + 1, _, by omega, by go_num, HPre2, hJ6, hP6⟩
            case measure => simp [intOf]; omega
          · refine ⟨_, rfl, hK4 _ _ ?_⟩
            refine wpListIn_plain rfl fun K5 hK5 => operIn_value (v := .bool true) (w' := W6) (by kernel_rfl) (hK5 _ _ ?_)
            refine wpListIn_nil ?_
            clear hK1 hK2 hK3 hK4 hK5 hy hR hJ5 hP5 hJ4 hP4 C4 HC HN HSET HNew
            simp only [Exit.then, Act.put]
            go_simp
            rename_i hKd
            refine hKd _ _ ?_
            clear hKd
            go_wp2
            refine ⟨rfl, _, results_none rfl _ _ _, ⟨_, rfl⟩, .inr ⟨_, ⟨(nodesOf M ks).drop (k + 1), ?_⟩, hJx6⟩⟩
            rw [HPre2.out, List.take_append_drop]
        · obtain rfl : k = ks.length := by omega
          have hPre := HPre.out
          rw [List.take_of_length_le (by rw [HNL.out]; exact Nat.le_refl _)] at hPre
          have HPre2 := Lib.hid hPre
          clear hPre HPre HVS HRows H17
          go_wp2
          exact ⟨rfl, _, results_none rfl _ _ _, ⟨_, rfl⟩, .inl ⟨_, HPre2.out, hJk⟩⟩
end Go.Proofs.YthinpbdbhijbgaaGreatDoor
namespace Go.Proofs.YthinpbdbhijbgaaGreatDoor
open Go.RowKit Go.Sort
set_option maxHeartbeats 2000000
set_option maxRecDepth 100000

section
variable {F : Fence} {n : Nat} {P : Program} {ops : Array Oper} {Q : Exit → Act → World → Prop} {a : Act} {w : World} {rest : List Oper} {o : Oper}
theorem wpListIn_value {v : Value} {w' : World} (hF : ∀ f, F.fn f) (hgd : o.guard = none) (hnd : ∀ c, o.op ≠ .defer c) (h : (execOp a.eval o).run P w = .ok (.value v) w')
    (hK : wpListIn F n P ops Q rest (a.put o.dst v) w') : wpListIn F n P ops Q (o :: rest) a w :=
  wpListIn_plain hgd fun K hk => by
    refine ⟨fun _ _ => hF _, ?_⟩
    rw [Oper.semAt_eq _ _ _ hnd, h]
    exact hk _ _ hK
theorem wpListIn_skipped {w' : World} (hF : ∀ f, F.fn f) (hgd : o.guard = none) (hnd : ∀ c, o.op ≠ .defer c) (h : (execOp a.eval o).run P w = .ok .skip w')
    (hK : wpListIn F n P ops Q rest (a.put o.dst undef) w') : wpListIn F n P ops Q (o :: rest) a w :=
  wpListIn_plain hgd fun K hk => by
    refine ⟨fun _ _ => hF _, ?_⟩
    rw [Oper.semAt_eq _ _ _ hnd, h]
    exact hk _ _ hK
theorem ex_store_row (ty : TypeId) (x y : Operand) (ho : o.op = .store ty x y)
    (g : Nat) (cells : Array Value) (hx : a.eval x = .pointer (some ⟨g, 0, none⟩)) (hy : a.eval y = .agg cells)
    (t : TypeId) (old : Array Value) (hg : w.heap[g]? = some (.cells old t (0, 0))) (hi : (P.info? ty).map (·.size) = some cells.size)
    (hold : old.size = cells.size) (h1 : cells.all (·.oneCell') = true) : (execOp a.eval o).run P w = .ok .skip (w.setRow g cells) := by
  unfold execOp
  simp only [ho, hx, hy, Instr.storeAt, Instr.sureAddr, Sem.run_bind, Sem.run_pure, Result.andThen_ok, run_storeVar_row w g t ty old cells hg hi hold h1]
end

/-- An operation within a round, from its walk outside of one. -/
theorem oper_in {n : Nat} {P : Program} {Q : Exit → Act → World → Prop} {a : Act} {w : World} {o : Oper} {K : Act → World → Prop} (l : Nat) (hnd : ∀ c, o.op ≠ .defer c) (h : o.wp P a w K Q) : o.wpIn (Fence.wide.inRound l) n P a w K Q := by
  unfold Oper.wp at h
  refine ⟨fun _ _ => trivial, ?_⟩
  rw [Oper.semAt_eq _ _ _ hnd]
  generalize (execOp a.eval o).run P w = r at h ⊢
  match r, h with
  | .ok (.value v) w', h => exact h
  | .ok .skip w', h => exact h
  | .ok (.defer d) w', h => exact h
  | .ok (.enter f args) w', h => exact ⟨(fun h => by cases h), callsIn_wide.2 h⟩
  | .ok (.row row args) w', h => exact ⟨(fun h => by cases h), fun c cs _ => let ⟨v, w'', r, s⟩ := h c cs; ⟨v, w'', r, stepsIn_wide.2 s⟩⟩
  | .halt (.panic v) w', h => exact h
theorem wpAnyIn_of_P {n : Nat} {P : Program} {ops : Array Oper} {Q : Exit → Act → World → Prop} {md : Region.Mode} (l : Nat) (hnd : ∀ o ∈ ops.toList, ∀ c, o.op ≠ .defer c) : ∀ (fuel : Nat) (lst : Array Bool) (a : Act) (w : World), wpAnyP P md ops Q fuel lst a w → wpAnyIn (Fence.wide.inRound l) n P md ops Q fuel lst a w
  | 0, _, _, _, h => h
  | fuel + 1, _, a, w, h => ⟨h.1, fun i hi => by
    have hh := wpOpP_mono (wpAnyIn_of_P (n := n) l hnd fuel _) (h.2 i hi)
    unfold wpOpP at hh
    unfold wpOpIn
    cases ho : ops[i]? with
    | none => rw [ho] at hh; exact hh
    | some o =>
      rw [ho] at hh
      simp only [] at hh ⊢
      by_cases hw : Region.wanted o (yielded ops a.tmps) = true
      · rw [if_pos hw] at hh ⊢
        exact oper_in l (hnd o (List.mem_of_getElem? (i := i) (by simpa using ho))) hh
      · rw [if_neg hw] at hh ⊢
        exact ⟨fun _ _ => trivial, hh⟩⟩
def noDefer (ops : Array Oper) : Bool := ops.toList.all fun o => match o.op with | .defer _ => false | _ => true
theorem wpIn_region_P {n : Nat} {P : Program} {ops : Array Oper} {Q : Exit → Act → World → Prop} {a : Act} {w : World} {id : Nat} (l : Nat) (hm : P.follows .mixedOrders = true) (hnd : noDefer ops = true) (h : RegionP P ops Q a w) : (Code.region id ops true).wpIn (Fence.wide.inRound l) n P Q a w :=
  wpIn_region_any hm (wpAnyIn_of_P l (fun o ho c e => by have := List.all_eq_true.1 hnd o ho; rw [e] at this; cases this) _ _ _ _ h)

/-- What All hands back: a function that tells the nodes. -/
def SeqOut (bt : Nat) (w : World) (e : Ending) (w' : World) : Prop :=
  ∃ bw btb, e = .returned (.func (.func 195) #[] #[.pointer (some ⟨bw, 0, none⟩), .pointer (some ⟨btb, 0, none⟩)]) ∧
    w'.cell? ⟨bw, 0, none⟩ = some (.func (.func 152) #[.pointer (some ⟨bt, 0, none⟩)] #[]) ∧ w'.cell? ⟨btb, 0, none⟩ = some (.pointer (some ⟨bt, 0, none⟩)) ∧ Ext w w'

theorem told_any (bt : Nat) (w : World) : Calls Tryz.prog 151 #[.pointer (some ⟨bt, 0, none⟩), .func (.func 152) #[.pointer (some ⟨bt, 0, none⟩)] #[]] w (SeqOut bt w) := by
  have h1 : ∀ t u, ((w.alloc (.cells #[Value.pointer (some ⟨bt, 0, none⟩)] t)).alloc (.cells #[Value.func (.func 152) #[.pointer (some ⟨bt, 0, none⟩)] #[]] u)).cell? ⟨w.heap.size, 0, none⟩ = some (.pointer (some ⟨bt, 0, none⟩)) := fun t u =>
    cell_of_row _ _ _ _ _ _ ((heap_alloc_old _ _ (by simp)).trans (heap_alloc_new w _))
  have h2 : ∀ t u, ((w.alloc (.cells #[Value.pointer (some ⟨bt, 0, none⟩)] t)).alloc (.cells #[Value.func (.func 152) #[.pointer (some ⟨bt, 0, none⟩)] #[]] u)).cell? ⟨w.heap.size + 1, 0, none⟩ = some (.func (.func 152) #[.pointer (some ⟨bt, 0, none⟩)] #[]) := fun t u =>
    cell_of_row _ _ _ _ _ _ (by have := heap_alloc_new (w.alloc (.cells #[Value.pointer (some ⟨bt, 0, none⟩)] t)) (.cells #[Value.func (.func 152) #[.pointer (some ⟨bt, 0, none⟩)] #[]] u); rwa [World.size_alloc] at this)
  have H1 := Lib.hid h1
  have H2 := Lib.hid h2
  clear h1 h2
  go_enter Tryz.func151, Tryz.ntmps151
  go_wp2
  go_ret
  exact ⟨_, _, rfl, H2.out _ _, H1.out _ _, (Ext.alloc w _).trans (Ext.alloc _ _)⟩

theorem tall_any (bt : Nat) (w : World) : Calls Tryz.prog 89 #[.pointer (some ⟨bt, 0, none⟩)] w (SeqOut bt w) := by
  have C1 := told_any bt w
  go_enter Tryz.func89, Tryz.ntmps89
  go_wp2_with fail
  refine C1.mono ?_
  rintro e w1 ⟨bw, btb, rfl, h1, h2, hE⟩
  have hfin : SeqOut bt w (.returned (.func (.func 195) #[] #[.pointer (some ⟨bw, 0, none⟩), .pointer (some ⟨btb, 0, none⟩)])) w1 := ⟨_, _, rfl, h1, h2, hE⟩
  have HFIN := Lib.hid hfin
  clear hfin h1 h2 hE C1
  go_wp2
  go_ret
  exact HFIN.out
end Go.Proofs.YthinpbdbhijbgaaGreatDoor
namespace Go.Proofs.YthinpbdbhijbgaaGreatDoor
open Go.RowKit Go.Sort
set_option maxHeartbeats 2000000
set_option maxRecDepth 100000
attribute [local go_sem] Oper.semAt_some

theorem infoSl : (Tryz.prog.info? 50).map (·.size) = some 1 := by kernel_rfl

theorem run_store_one {P : Program} {o : Oper} {a : Act} {w : World} (ty : TypeId) (x y : Operand) (ho : o.op = .store ty x y)
    (g : Nat) (v : Value) (hx : a.eval x = .pointer (some ⟨g, 0, none⟩)) (hy : a.eval y = v) (h1 : v.oneCell' = true)
    (t : TypeId) (old : Value) (hg : w.heap[g]? = some (.cells #[old] t (0, 0))) (hi : (P.info? ty).map (·.size) = some 1) : (execOp a.eval o).run P w = .ok .skip (w.setRow g #[v]) := by
  subst hy
  unfold execOp
  simp only [ho, hx, Instr.storeAt, Instr.sureAddr, Sem.run_bind, Sem.run_pure, Result.andThen_ok, run_storeVar_one w g t ty old _ hg hi h1]

/-- All but the box of the list and the list's own row. -/
def SafeO (bo : Nat) (W : World) (k : Nat) : Prop := k ≠ bo ∧ ∃ v, W.cell? ⟨bo, 0, none⟩ = some v ∧ v.ownBlock ≠ some k

theorem Turn.cells {B : Nat} {X Y : World} (h : Turn B X Y) {k : Nat} {c : Array Value} {e : TypeId} {f : Nat × Nat} (hk : X.heap[k]? = some (.cells c e f)) : Y.heap[k]? = some (.cells c e f) := h.same k _ hk (.inr rfl)
theorem Turn.cell {B : Nat} {X Y : World} (h : Turn B X Y) {a : Addr} {u : Value} (hu : X.cell? a = some u) : Y.cell? a = some u := by
  obtain ⟨c, e, f, hk⟩ := cell_cells hu
  rw [World.cell?_of_block ((h.cells hk).trans hk.symm)]
  exact hu
theorem SafeO.turn {B bo : Nat} {X Y : World} (hT : Turn B X Y) (k : Nat) (h : SafeO bo X k) : SafeO bo Y k := by
  obtain ⟨h1, v, h2, h3⟩ := h
  exact ⟨h1, v, hT.cell h2, h3⟩
theorem told_not_nil (c : Array Value) (W : World) : (binOp .eql 153 (.func (.func 195) #[] c) .nilFunc).run Tryz.prog W = .ok (.bool false) W := by kernel_rfl

end Go.Proofs.YthinpbdbhijbgaaGreatDoor
namespace Go.Proofs.YthinpbdbhijbgaaGreatDoor
open Go.RowKit
set_option maxHeartbeats 2000000
set_option maxRecDepth 100000

end Go.Proofs.YthinpbdbhijbgaaGreatDoor
namespace Go.Proofs.YthinpbdbhijbgaaGreatDoor
open Go.RowKit Go.Sort
set_option maxHeartbeats 2000000
set_option maxRecDepth 100000

/-- A tree of the walk's own blocks. -/
def Own (B : Nat) (w : World) (bt : Nat) (M : List (Key × Nd)) (N : Nat) : Prop := TreeAt (fun k => B ≤ k ∧ k < w.heap.size) w bt M N
theorem Own.ext {B : Nat} {w w' : World} {bt : Nat} {M : List (Key × Nd)} {N : Nat} (h : Own B w bt M N) (he : Ext w w') : Own B w' bt M N :=
  (TreeAt.ext h he).keep (fun _ _ => rfl) (fun _ hk => ⟨hk.1, Nat.lt_of_lt_of_le hk.2 he.size⟩) (fun _ hk => hk.2) (Nat.le_refl _)

end Go.Proofs.YthinpbdbhijbgaaGreatDoor
namespace Go.Proofs.YthinpbdbhijbgaaGreatDoor
open Go.RowKit Go.Sort
set_option maxHeartbeats 2000000
set_option maxRecDepth 100000

theorem ex_alloc_nd {o : Oper} {a : Act} {w : World} (ho : o.op = .alloc 44) : (execOp a.eval o).run Tryz.prog w = .ok (.value (.pointer (some ⟨w.heap.size, 0, none⟩))) (w.alloc (.cells zeroNd 44)) := by
  have hz : (zeroValue 44).run Tryz.prog w = .ok (.agg zeroNd) w := by kernel_rfl
  simp [execOp, ho, hz, newVar, newRow, go_sem]

theorem put_frame (T : Array Value) (p b : Tmp) (u v : Value) : ({ tmps := T.setIfInBounds p u, defers := [] } : Act).put (some b) v = { tmps := (T.setIfInBounds p u).setIfInBounds b v, defers := [] } := rfl
theorem eval_set_same {T : Array Value} {b : Tmp} {v : Value} (h : b < T.size) : ({ tmps := T.setIfInBounds b v, defers := [] } : Act).eval (.tmp b) = v := by
  simp [Act.eval, h]
theorem eval_set_other {T : Array Value} {b p : Tmp} {u v : Value} (h : p < T.size) (hne : b ≠ p) : ({ tmps := (T.setIfInBounds p u).setIfInBounds b v, defers := [] } : Act).eval (.tmp p) = u := by
  simp [Act.eval, Array.getElem?_setIfInBounds, h, hne]

/-- What the loop's own assignment leaves. -/
def AggA (T : Array Value) (p b : Tmp) (x : Value × Nd) (a' : Act) (W : World) : Prop :=
  ∃ bl da dc aa ac, x.1 = .agg (ndC x.2 (.slice da x.2.data.length dc) (.slice aa x.2.acl.length ac)) ∧ W.heap[bl]? = some (.cells (ndC x.2 (.slice da x.2.data.length dc) (.slice aa x.2.acl.length ac)) 44 (0, 0)) ∧
    a' = { tmps := (T.setIfInBounds p x.1).setIfInBounds b (.pointer (some ⟨bl, 0, none⟩)), defers := [] }

theorem wpIn_tells_nd {n : Nat} {Q : Exit → Act → World → Prop} {a : Act} {w : World} {g : Operand} {body : Code} {gf : Nat} {lb : Array Value} {Safe : World → Nat → Prop} {S Sp : List (Value × Nd) → Prop} {id : Nat} {p b : Tmp} {pos : String} {aft : Array Edge}
    (h1 : 1 ≤ n) (hg : a.eval g = .func (.func gf) #[] lb) (eg : ∀ args w, (callFunc gf args).run Tryz.prog w = .ok (.enter gf args) w)
    (hseq : Tells Fence.wide (n - 1) Tryz.prog gf lb (fun x : Value × Nd => #[x.1]) (GS Safe) (KeepS Safe) Safe S Sp w)
    (hp : p < a.tmps.size) (hb : b < a.tmps.size) (hne : b ≠ p)
    (I : List (Value × Nd) → World → Prop) (Ix : Code → List (Value × Nd) → World → Prop)
    (hSafe : ∀ X Y k, Turn w.heap.size X Y → Safe X k → Safe Y k)
    (hI : ∀ pre X Y, I pre X → Turn w.heap.size X Y → I pre Y ∧ ∀ k, X.heap.size ≤ k → Safe Y k)
    (hIx : ∀ c pre X Y, Ix c pre X → Turn w.heap.size X Y → Ix c pre Y)
    (h0 : I [] w)
    (hbody : ∀ (l : Nat) (pre : List (Value × Nd)) (m : Nd) (da : Option Addr) (dc : Nat) (aa : Option Addr) (ac bl : Nat) (W : World), w.heap.size ≤ l → (∃ r, W.heap[l]? = some (.loop r)) →
      Sp (pre ++ [(.agg (ndC m (.slice da m.data.length dc) (.slice aa m.acl.length ac)), m)]) → I pre W → GS Safe (.agg (ndC m (.slice da m.data.length dc) (.slice aa m.acl.length ac)), m) W →
      W.heap[bl]? = some (.cells (ndC m (.slice da m.data.length dc) (.slice aa m.acl.length ac)) 44 (0, 0)) →
      body.wpIn (Fence.wide.inRound l) (n - 1 - 1) Tryz.prog (tellPost w.heap.size (KeepS Safe) I Ix (pre ++ [(.agg (ndC m (.slice da m.data.length dc) (.slice aa m.acl.length ac)), m)]) W)
        { tmps := (a.tmps.setIfInBounds p (.agg (ndC m (.slice da m.data.length dc) (.slice aa m.acl.length ac)))).setIfInBounds b (.pointer (some ⟨bl, 0, none⟩)), defers := [] } W)
    (hdone : ∀ (D : Nat) (xs : List (Value × Nd)) (W : World), w.heap.size ≤ D → S xs → I xs W → W.heap[D]? = some (.deferred (some [])) → Q .normal { a with defers := { target := .collected D, args := #[] } :: a.defers } W)
    (hstop : ∀ (D : Nat) (c : Code) (pre : List (Value × Nd)) (W : World), w.heap.size ≤ D → Sp pre → Ix c pre W → W.heap[D]? = some (.deferred (some [])) → c.wpIn Fence.wide n Tryz.prog Q { a with defers := { target := .collected D, args := #[] } :: a.defers } W) :
    (Code.rangeFunc g #[p] (Code.region id #[{ dst := some b, op := Op.alloc 44, type := 0, pos := pos, after := #[], guard := none }, { dst := none, op := Op.store 44 (Operand.tmp b) (Operand.tmp p), type := 0, pos := pos, after := aft, guard := none }] false) body).wpIn Fence.wide n Tryz.prog Q a w := by
  refine wpIn_tells rfl h1 hg trivial eg hseq (fun _ => rfl) I Ix (AggA a.tmps p b) ?hKeep ?hI hIx ?hG ?hAx h0 ?assign ?body hdone hstop
  case hKeep =>
    intro A X Y Z h hk h2
    exact ⟨Nat.le_trans h.size (Nat.le_trans hk.1 h2.size), fun k c e f hc hs => by
      obtain ⟨h3, h4⟩ := hk.2 k c e f (h.cells hc) (hSafe _ _ _ h hs)
      exact ⟨h2.cells h3, hSafe _ _ _ h2 h4⟩⟩
  case hI => exact fun pre X Y h hT => ⟨(hI pre X Y h hT).1, fun k hk => hSafe _ _ _ hT hk, (hI pre X Y h hT).2⟩
  case hG => exact fun x X Y h hT => NdS.imp h (fun k hk => ⟨hSafe _ _ _ hT hk.1, Nat.lt_of_lt_of_le hk.2 hT.size⟩) fun _ _ _ _ hu => hT.cell hu
  case hAx =>
    rintro x a' X Y ⟨bl, da, dc, aa, ac, e1, e2, e3⟩ hT
    exact ⟨bl, da, dc, aa, ac, e1, hT.cells e2, e3⟩
  case assign =>
    rintro l pre ⟨xv, m⟩ W K hIp hG hK
    obtain ⟨da, dc, aa, ac, e, _⟩ := hG
    dsimp only at e
    subst e
    have hfr : ∀ v : Value, (#[p].zip #[v]).foldl (fun (t : Array Value) (x : Tmp × Value) => match x with | (p, v) => t.setIfInBounds p v) a.tmps = a.tmps.setIfInBounds p v := fun v => by simp
    refine wpIn_region_list ?_
    rw [hfr]
    show wpListIn _ _ _ _ _ [_, _] { tmps := a.tmps.setIfInBounds p (.agg (ndC m (.slice da m.data.length dc) (.slice aa m.acl.length ac))), defers := [] } W
    refine wpListIn_value (fun _ => trivial) rfl (fun c h => by cases h) (ex_alloc_nd rfl) ?_
    rw [put_frame]
    refine wpListIn_skipped (fun _ => trivial) rfl (fun c h => by cases h) (ex_store_row 44 (.tmp b) (.tmp p) rfl W.heap.size (ndC m (.slice da m.data.length dc) (.slice aa m.acl.length ac)) (eval_set_same (by simpa using hb)) (eval_set_other hp hne) 44 zeroNd (heap_alloc_new W _) sizeNd rfl (cells_node m da aa _ _ dc ac)) ?_
    rw [setRow_alloc]
    refine wpListIn_nil ?_
    refine hK _ _ (Ext.alloc _ _) ⟨W.heap.size, da, dc, aa, ac, rfl, heap_alloc_new W _, rfl⟩
  case body =>
    rintro l pre ⟨xv, m⟩ a' W hl hr hSp hIp hG ⟨bl, da, dc, aa, ac, e1, e2, rfl⟩
    dsimp only at e1
    subst e1
    exact hbody l pre m da dc aa ac bl W hl hr hSp hIp hG e2

section
variable {P : Program} {ops : Array Oper} {Q : Exit → Act → World → Prop} {Φ : Nat → Value → World → Prop} {a0 : Act} {w0 : World}
theorem duties_rel : ∀ (l : List Oper) (k : Nat), Duties P ops Q Φ a0 w0 k l → DutiesR Ext P ops Q Φ a0 w0 k l
  | [], _, _ => trivial
  | _ :: l, k, h => ⟨h.1, duties_rel l (k + 1) h.2⟩
theorem Ahead.val {vals : List Value} {o p : Oper} {a : Act} {w : World} (h : Ahead ops (fun i v _ => vals[i]? = some v) o a w) (j : Nat) (d : Tmp) (hp : ops[j]? = some p) (hd : p.dst = some d) (he : ∃ e ∈ o.after.toList, e.on = j ∧ Region.binds .any e = true) {v : Value} (hv : vals[j]? = some v) : a.eval (.tmp d) = v :=
  Option.some.inj ((h.slot j d hp hd he).symm.trans hv)
end
end Go.Proofs.YthinpbdbhijbgaaGreatDoor
namespace Go.Proofs.YthinpbdbhijbgaaGreatDoor
open Go.RowKit
set_option maxHeartbeats 400000

theorem fields_of {t : TypeId} {fs : Array Field} (h : Tryz.prog.underlying t = some (.struct fs)) : Tryz.prog.fieldsOf t = fs := by
  unfold Program.fieldsOf; rw [h]
theorem eq_agg (w : World) (d : Nat) (t : TypeId) (fs : Array Field) (xs ys : Array Value) (h : Tryz.prog.underlying t = some (.struct fs)) (hp : Tryz.prog.stoodInHeld t = false) :
    (Op.equalIn (d + 1) t (.agg xs) (.agg ys)).run Tryz.prog w = (Op.eqFields d xs ys fs.toList).run Tryz.prog w := by
  rw [run_equalIn_agg w d t xs ys (by rw [fields_of h]; exact h) hp, fields_of h]

def eqAc (x y : Ac) : Bool := x.perms == y.perms && (x.scheme.toList == y.scheme.toList && x.id.toList == y.id.toList)
def acV (x : Ac) : Value := .agg #[.int .i32 x.perms, .string x.scheme, .string x.id]
theorem eq_ac (w : World) (d : Nat) (x y : Ac) : (Op.equalIn (d + 3) 129 (acV x) (acV y)).run Tryz.prog w = .ok (eqAc x y) w := by
  unfold acV
  rw [eq_agg w (d + 2) _ _ _ _ Tryz.underlying129 (by kernel_rfl)]
  simp [Op.eqFields, part, go_sem]
  unfold eqAc
  repeat' split
  all_goals simp_all

theorem guard_ac : Tryz.prog.eqGuardType Tryz.prog.depth 129 = false := by kernel_rfl
theorem guard_q : Tryz.prog.eqGuardType Tryz.prog.depth 23 = false := by kernel_rfl
theorem neq_ac (w : World) (x y : Ac) : (binOp .neq 129 (.agg #[.int .i32 x.perms, .string x.scheme, .string x.id]) (.agg #[.int .i32 y.perms, .string y.scheme, .string y.id])).run Tryz.prog w = .ok (.bool (!eqAc x y)) w := by
  rw [run_neq_struct]
  have := eq_ac w 9997 x y
  unfold acV at this
  rw [this]
  rfl
def eqQ (h : Bool) (a b : Int) (h' : Bool) (a' b' : Int) : Bool := h == h' && (a == a' && b == b')
theorem eq_q (w : World) (d : Nat) (h : Bool) (a b : Int) (h' : Bool) (a' b' : Int) : (Op.equalIn (d + 2) 23 (.agg #[.bool h, .int .i64 a, .int .i64 b]) (.agg #[.bool h', .int .i64 a', .int .i64 b'])).run Tryz.prog w = .ok (eqQ h a b h' a' b') w := by
  rw [eq_agg w (d + 1) _ _ _ _ Tryz.underlying23 (by kernel_rfl)]
  simp [Op.eqFields, part, go_sem]
  unfold eqQ
  repeat' split
  all_goals simp_all
theorem neq_q (w : World) (h : Bool) (a b : Int) (h' : Bool) (a' b' : Int) : (binOp .neq 23 (.agg #[.bool h, .int .i64 a, .int .i64 b]) (.agg #[.bool h', .int .i64 a', .int .i64 b'])).run Tryz.prog w = .ok (.bool (!eqQ h a b h' a' b')) w := by
  rw [run_neq_struct, eq_q w 9998]; rfl
theorem eql_q (w : World) (h : Bool) (a b : Int) (h' : Bool) (a' b' : Int) : (binOp .eql 23 (.agg #[.bool h, .int .i64 a, .int .i64 b]) (.agg #[.bool h', .int .i64 a', .int .i64 b'])).run Tryz.prog w = .ok (.bool (eqQ h a b h' a' b')) w := by
  rw [run_eql_struct, eq_q w 9998]; rfl
end Go.Proofs.YthinpbdbhijbgaaGreatDoor
namespace Go.Proofs.YthinpbdbhijbgaaGreatDoor
open Go.RowKit
set_option maxHeartbeats 2000000
set_option maxRecDepth 100000

/-- Are two lists alike. -/
def eqAcs : List Ac → List Ac → Bool
  | [], [] => true
  | x :: xs, y :: ys => eqAc x y && eqAcs xs ys
  | _, _ => false
theorem eqAcs_len : ∀ xs ys, xs.length ≠ ys.length → eqAcs xs ys = false
  | [], [], h => absurd rfl h
  | [], _ :: _, _ => rfl
  | _ :: _, [], _ => rfl
  | x :: xs, y :: ys, h => by simp only [eqAcs]; rw [eqAcs_len xs ys (by simpa using h)]; simp
theorem eqAcs_drop (xs ys : List Ac) (k : Nat) (h : k < xs.length) (h' : k < ys.length) : eqAcs (xs.drop k) (ys.drop k) = (eqAc xs[k] ys[k] && eqAcs (xs.drop (k + 1)) (ys.drop (k + 1))) := by
  rw [List.drop_eq_getElem_cons h, List.drop_eq_getElem_cons h']; rfl

theorem racls_any (a b : Option Addr) (c d : Nat) (xs ys : List Ac) (w : World) (hx : Cells w.heap.size w a (acCs xs)) (hy : Cells w.heap.size w b (acCs ys)) (hm : xs.length ≤ 9223372036854775800) (hm' : ys.length ≤ 9223372036854775800) :
    Calls Tryz.prog 130 #[.slice a xs.length c, .slice b ys.length d] w fun e w' => e = .returned (.bool (eqAcs xs ys)) ∧ Below w.heap.size w w' := by
  by_cases hl : xs.length ≠ ys.length
  · have H1 := Lib.hid (eqAcs_len xs ys hl)
    have hlb : ((xs.length : Int) != ys.length) = true := by simp; omega
    clear hl hx hy
    go_enter Tryz.func130, Tryz.ntmps130
    go_wp2
    go_ret
    exact ⟨by rw [H1.out]; rfl, Below.refl _ _⟩
  have hl : xs.length = ys.length := by omega
  have HL := Lib.hid hl
  have hg := guard_ac
  have hnq := neq_ac
  have hlb : ((xs.length : Int) != ys.length) = false := by simp [hl]
  clear hl
  go_enter Tryz.func130, Tryz.ntmps130
  go_wp2
  go_loopw [5] (fun i wr => ∃ (k n : Nat), k ≤ xs.length ∧ i = .int .i64 k ∧ wr = w.drewN n ∧ Hid (eqAcs xs ys = eqAcs (xs.drop k) (ys.drop k))) (fun i _ => xs.length - (intOf i).toNat)
  case atStart => exact ⟨0, 0, Nat.zero_le _, rfl, rfl, rfl⟩
  case round =>
    obtain ⟨k, n, hk, rfl, rfl, HQ⟩ := hrel
    by_cases hlt : k < xs.length
    · have hlt' : k < ys.length := by have := HL.out; omega
      obtain ⟨b1, o1, rfl, hb1, c0, c1, c2⟩ := acCells hx k hlt
      obtain ⟨b2, o2, rfl, hb2, d0, d1, d2⟩ := acCells hy k hlt'
      have hk1 : (k : Int) < xs.length := by omega
      have hk2 : (k : Int) < ys.length := by omega
      have hk0 : (0 : Int) ≤ k := by omega
      have HD := Lib.hid (eqAcs_drop xs ys k hlt hlt')
      cases he : eqAc xs[k] ys[k]
      · have H1 : Hid (eqAcs xs ys = false) := by unfold Hid; rw [HQ.out, HD.out, he]; rfl
        clear hx hy
        go_wp2
        go_quiet (fail)
        go_wp2
        go_ret
        exact ⟨by rw [H1.out]; rfl, below_drewN (below_drewN (Below.refl _ _) _) _⟩
      · have H1 : Hid (eqAcs xs ys = eqAcs (xs.drop (k + 1)) (ys.drop (k + 1))) := by unfold Hid; rw [HQ.out, HD.out, he]; rfl
        clear hx hy
        go_wp2
        go_quiet (fail)
        go_wp2
        go_roundw
        case rel => exact ⟨k + 1, _, by omega, by go_num, rfl, H1⟩
        case measure => simp [intOf]; omega
    · obtain rfl : k = xs.length := by omega
      have H1 : Hid (eqAcs xs ys = true) := by
        unfold Hid; rw [HQ.out, List.drop_length, HL.out, List.drop_length]; rfl
      clear hx hy
      go_wp2
      go_ret
      exact ⟨by rw [H1.out]; rfl, below_drewN (Below.refl _ _) _⟩

theorem eqAc_self (x : Ac) : eqAc x x = true := by simp [eqAc]
theorem eqAcs_self : ∀ l : List Ac, eqAcs l l = true
  | [] => rfl
  | x :: l => by simp only [eqAcs]; rw [eqAc_self, eqAcs_self l]; rfl

/-- A node and its like are alike. -/
theorem rsame_self (n : Nd) (da aa db ab : Option Addr) (dc ac dd ad : Nat) (w : World) (hf : Fit n) (hD : Cells w.heap.size w da (n.data.map u8v)) (hA : Cells w.heap.size w aa (acCs n.acl)) (hD' : Cells w.heap.size w db (n.data.map u8v)) (hA' : Cells w.heap.size w ab (acCs n.acl)) :
    Calls Tryz.prog 55 #[.agg (ndC n (.slice da n.data.length dc) (.slice aa n.acl.length ac)), .agg (ndC n (.slice db n.data.length dd) (.slice ab n.acl.length ad))] w fun e w' => e = .returned (.bool true) ∧ Below w.heap.size w w' := by
  have hfa := hf.acl
  obtain ⟨W2, hW2⟩ : ∃ W2, W2 = (w.alloc (.cells (ndC n (.slice da n.data.length dc) (.slice aa n.acl.length ac)) 44)).alloc (.cells (ndC n (.slice db n.data.length dd) (.slice ab n.acl.length ad)) 44) := ⟨_, rfl⟩
  have hs2 : W2.heap.size = w.heap.size + 1 + 1 := by rw [hW2]; simp
  have hb2 : Below w.heap.size w W2 := by rw [hW2]; exact ((Below.refl _ _).alloc (Nat.le_refl _) _).alloc (by simp) _
  have hx : Box W2 w.heap.size (ndC n (.slice da n.data.length dc) (.slice aa n.acl.length ac)) := fun j => by rw [hW2]; exact cell_of_row _ _ _ _ _ _ (heap_alloc2_old w _ _)
  have hy : Box W2 (w.heap.size + 1) (ndC n (.slice db n.data.length dd) (.slice ab n.acl.length ad)) := fun j => by rw [hW2]; exact cell_of_row _ _ _ _ _ _ (heap_alloc2_new w _ _)
  have hv1 := conv_string dc (hD.below hb2)
  have hv2 := conv_string dd (hD'.below hb2)
  have CA := racls_any aa ab ac ad n.acl n.acl W2 ((hA.below hb2).mono (by omega)) ((hA'.below hb2).mono (by omega)) (by omega) (by omega)
  rw [eqAcs_self] at CA
  have hgq := guard_q
  have hnq := neq_q
  have hqq : ∀ h a b, eqQ h a b h a b = true := fun h a b => by simp [eqQ]
  rw [hW2] at hv1 hv2 CA
  have CA := Lib.hid CA
  have HW2 := Lib.hid hW2
  unfold ndC at hx hy hv1 hv2 CA HW2 ⊢
  clear hW2 hD hA hD' hA'
  go_enter Tryz.func55, Tryz.ntmps55
  go_wp2_with fail
  refine CA.out.mono ?_
  rintro e w3 ⟨rfl, hb3⟩
  rw [← HW2.out] at hb3
  have hx3 := hx.below hb3 (by omega)
  have hy3 := hy.below hb3 (by omega)
  have hbb := hb2.trans (hb3.mono (by omega))
  unfold Box at hx3 hy3
  clear CA hx hy hv1 hv2 hb3 hb2 HW2
  go_wp2
  go_ret
  exact ⟨rfl, hbb⟩
end Go.Proofs.YthinpbdbhijbgaaGreatDoor
namespace Go.Proofs.YthinpbdbhijbgaaGreatDoor
open Go.RowKit Go.Sort
set_option maxHeartbeats 4000000
set_option maxRecDepth 100000
attribute [local go_sem] Oper.semAt_some

theorem nodesOf_vals {M : List (Key × Nd)} (h : MSorted M) : nodesOf M (M.map (·.1)) = M.map (·.2) := by
  unfold nodesOf
  rw [List.map_map]
  refine List.map_congr_left fun x hx => ?_
  show (mget M x.1).getD zeroN = x.2
  rw [mget_of_mem h (show (x.1, x.2) ∈ M from hx)]
  rfl

theorem NdsAt.ext {w w' : World} {a : Option Addr} {L : List Nd} (h : NdsAt w.heap.size w a L) (hb : Ext w w') : NdsAt w'.heap.size w' a L := fun i n hi => by
  obtain ⟨b, off, v, h1, h2, h3, h4⟩ := h i n hi
  exact ⟨b, off, v, h1, Nat.lt_of_lt_of_le h2 hb.size, (h3.below hb).mono hb.size, fun j u hj => (hb.cell (p := ⟨b, off + i * 17 + j, none⟩) h2).trans (h4 j u hj)⟩

theorem wp_skipped {P : Program} {Q : Exit → Act → World → Prop} {o : Oper} {a : Act} {w w' : World} {K : Act → World → Prop} (h : (execOp a.eval o).run P w = .ok .skip w') (hk : K (a.put o.dst undef) w') : o.wp P a w K Q := by
  unfold Oper.wp
  rw [h]
  exact hk
/-- The first loop's rounds. -/
structure WalkC (S : Nat → Prop) (bt ga N : Nat) (M : List (Key × Nd)) (w W7 : World) (m at' : Nat) (W : World) : Prop where
  one : 1 ≤ m
  le : m ≤ M.length
  tree : TreeAt S W bt (M.take m) N
  box : W.heap[ga]? = some (.cells #[.int .i64 at'] 3 (0, 0))
  cells : ∀ k c e f, W7.heap[k]? = some (.cells c e f) → k ≠ ga → W.heap[k]? = some (.cells c e f)
  size : W7.heap.size ≤ W.heap.size
  keep : Below w.heap.size w W
theorem WalkC.turn {S : Nat → Prop} {bt ga N : Nat} {M : List (Key × Nd)} {w W7 : World} {m p : Nat} {X Y : World} (h : WalkC S bt ga N M w W7 m p X) (hT : Turn W7.heap.size X Y) (hS : ∀ k, S k → k < W7.heap.size) (hw : w.heap.size ≤ W7.heap.size) : WalkC S bt ga N M w W7 m p Y :=
  ⟨h.one, h.le, h.tree.keep (fun k hk => by
      have hlt := h.tree.bound k hk
      rw [hT.same k _ (Array.getElem?_eq_getElem hlt) (.inl (hS k hk)), Array.getElem?_eq_getElem hlt]) (fun _ h => h) (fun k hk => Nat.lt_of_lt_of_le (h.tree.bound k hk) hT.size) (Nat.le_refl _),
    hT.cells h.box, fun k c e f hk hn => hT.cells (h.cells k c e f hk hn), Nat.le_trans h.size hT.size, h.keep.trans (hT.below hw h.keep.size)⟩

theorem ex_load_at {P : Program} {o : Oper} {a : Act} {w : World} {ty : TypeId} {x : Operand} (ho : o.op = .load ty x) (p : Addr) (hx : a.eval x = .pointer (some p)) (cs : Array Value) (hc : ∀ j u, cs[j]? = some u → w.cell? (p.add j) = some u) {d : TypeDesc}
    (hu : P.underlying ty = some d) (hd : oneD d = false) (hi : (P.info? ty).map (·.size) = some cs.size) : (execOp a.eval o).run P w = .ok (.value (.agg cs)) w := by
  unfold execOp
  simp only [ho, hx, Instr.loadAt, Instr.sureAddr, Sem.run_bind, Sem.run_pure, Result.andThen_ok, run_loadVar_at w p ty cs d hc hu hd hi]

/-- What a round's steps keep. -/
structure Kp (B ga : Nat) (W W' : World) : Prop where
  recs : KeepsRec B W W'
  cells : KeepS (fun _ k => k ≠ ga) W W'
theorem Kp.trans {B ga : Nat} {X Y Z : World} (h : Kp B ga X Y) (k : Kp B ga Y Z) : Kp B ga X Z :=
  ⟨h.recs.trans k.recs, Nat.le_trans h.cells.1 k.cells.1, fun i c e f hi hs => k.cells.2 i c e f (h.cells.2 i c e f hi hs).1 hs⟩
theorem Kp.ext {B ga : Nat} {W W' : World} (h : Ext W W') : Kp B ga W W' :=
  ⟨KeepsRec.of_ext h, h.size, fun _ _ _ _ hk hs => ⟨(h.block _ (Array.getElem?_eq_some_iff.1 hk).1).trans hk, hs⟩⟩
theorem Kp.set {B ga : Nat} (W : World) (cs : Array Value) (h : ga < B) : Kp B ga W (W.setRow ga cs) :=
  ⟨⟨by simp, fun k o hB hk _ => (setRow_other _ _ _ _ (by omega)).trans hk⟩, by simp, fun k c e f hk hs => ⟨(setRow_other _ _ _ _ hs).trans hk, hs⟩⟩
theorem Kp.mod {B ga : Nat} {S : Nat → Prop} {W W' : World} (h : Mod S W W') (hS : ∀ k, S k → k < B) : Kp B ga W W' :=
  ⟨⟨h.size, fun k o hB hk _ => h.same k o hk (.inl fun hs => by have := hS k hs; omega)⟩, h.size, fun _ _ _ _ hk hs => ⟨h.cells hk, hs⟩⟩
theorem WalkC.ext {S : Nat → Prop} {bt ga N : Nat} {M : List (Key × Nd)} {w W7 : World} {m p : Nat} {X Y : World} (h : WalkC S bt ga N M w W7 m p X) (hE : Ext X Y) (hS : ∀ k, S k → k < W7.heap.size) (hw : w.heap.size ≤ W7.heap.size) : WalkC S bt ga N M w W7 m p Y :=
  h.turn (Turn.of_ext hE) hS hw
theorem WalkC.cell {S : Nat → Prop} {bt ga N : Nat} {M : List (Key × Nd)} {w W7 : World} {m p : Nat} {X : World} (h : WalkC S bt ga N M w W7 m p X) {b o : Nat} {u : Value} (hu : W7.cell? ⟨b, o, none⟩ = some u) (hb : b ≠ ga) : X.cell? ⟨b, o, none⟩ = some u := by
  obtain ⟨c', e', f', hk'⟩ := cell_cells hu
  rw [World.cell?_of_block ((h.cells b c' e' f' hk' hb).trans hk'.symm)]
  exact hu


end Go.Proofs.YthinpbdbhijbgaaGreatDoor
namespace Go.Proofs.YthinpbdbhijbgaaGreatDoor
open Go.RowKit
set_option maxHeartbeats 2000000

section
variable {P : Program} {o : Oper} {a : Act} {w : World}
end

/-- All is as it was, but for blocks of a set. -/
structure Chg (S : Nat → Prop) (w w' : World) : Prop where
  os : w'.os = w.os
  tape : w'.tape = w.tape
  output : w'.output = w.output
  size : w.heap.size ≤ w'.heap.size
  same : ∀ k, k < w.heap.size → ¬ S k → w'.heap[k]? = w.heap[k]?
theorem Chg.refl (S : Nat → Prop) (w : World) : Chg S w w := ⟨rfl, rfl, rfl, Nat.le_refl _, fun _ _ _ => rfl⟩
theorem Chg.trans {S S' : Nat → Prop} {a b c : World} (h : Chg S a b) (k : Chg S' b c) (hS : ∀ i, i < a.heap.size → S' i → S i) : Chg S a c :=
  ⟨k.os.trans h.os, k.tape.trans h.tape, k.output.trans h.output, Nat.le_trans h.size k.size, fun i hi hn => (k.same i (Nat.lt_of_lt_of_le hi h.size) fun hs => hn (hS i hi hs)).trans (h.same i hi hn)⟩
theorem Chg.of_ext {S : Nat → Prop} {a b : World} (h : Ext a b) : Chg S a b := ⟨h.os, h.tape, h.output, h.size, fun k hk _ => h.block k hk⟩
theorem Chg.set {S : Nat → Prop} (r : Nat) (w : World) (cs : Array Value) (hr : S r) : Chg S w (w.setRow r cs) := ⟨rfl, rfl, rfl, by simp, fun k _ hn => setRow_other _ _ _ _ fun e => hn (e ▸ hr)⟩
theorem Chg.grown {S : Nat → Prop} {a b : World} {row : Option Nat} (h : a.grownBy b row) (hr : ∀ k, row = some k → k < a.heap.size → S k) : Chg S a b :=
  ⟨h.os, h.tape, h.output, h.size, fun k hk hn => h.block k hk fun e => hn (hr k e.symm hk)⟩
theorem Chg.below {S : Nat → Prop} {B : Nat} {w w' : World} (h : Chg S w w') (hB : ∀ k, S k → B ≤ k) (hs : B ≤ w.heap.size) : Below B w w' :=
  ⟨h.os, h.tape, h.output, h.size, fun k hk => h.same k (by omega) fun hs => by have := hB k hs; omega⟩
theorem Chg.mono {S S' : Nat → Prop} {w w' : World} (h : Chg S w w') (hS : ∀ k, k < w.heap.size → S k → S' k) : Chg S' w w' := ⟨h.os, h.tape, h.output, h.size, fun k hk hn => h.same k hk fun hs => hn (hS k hk hs)⟩
end Go.Proofs.YthinpbdbhijbgaaGreatDoor
namespace Go.Proofs.YthinpbdbhijbgaaGreatDoor
open Go.RowKit
set_option maxHeartbeats 2000000
set_option maxRecDepth 100000

/-- Rows that show nodes, all in blocks of a set. -/
structure RowsOf (S : Nat → Prop) (w : World) (a : Option Addr) (vs : List (Array Value)) (L : List Nd) : Prop where
  len : vs.length = L.length
  cells : CellsS S w a (vs.flatMap Array.toList)
  each : ∀ (j : Nat) (cs : Array Value), vs[j]? = some cs → ∃ n, L[j]? = some n ∧ NdS S w (.agg cs) n

/-- A slice's address: none, or a plain one. -/
def PlainA (a : Option Addr) (cap : Nat) : Prop := (a = none ∧ cap = 0) ∨ ∃ b off, a = some ⟨b, off, none⟩

theorem RowsOf.imp {S S' : Nat → Prop} {w w' : World} {a : Option Addr} {vs : List (Array Value)} {L : List Nd} (h : RowsOf S w a vs L) (hS : ∀ b, S b → S' b) (hw : ∀ k, S k → w'.heap[k]? = w.heap[k]?) : RowsOf S' w' a vs L :=
  ⟨h.len, h.cells.imp hS fun b o u hb hu => (World.cell?_of_block (hw b hb)).trans hu, fun j cs hj => by
    obtain ⟨n, hn, hN⟩ := h.each j cs hj
    exact ⟨n, hn, NdS.imp hN hS fun b o u hb hu => (World.cell?_of_block (hw b hb)).trans hu⟩⟩
theorem RowsOf.v17 {S : Nat → Prop} {w : World} {a : Option Addr} {vs : List (Array Value)} {L : List Nd} (h : RowsOf S w a vs L) : ∀ x ∈ vs, x.size = 17 := fun x hx => by
  obtain ⟨i, hi, ei⟩ := List.getElem_of_mem hx
  obtain ⟨n2, _, da2, dc2, aa2, ac2, e2, _⟩ := h.each i x (by rw [List.getElem?_eq_getElem hi, ei])
  simp only [Value.agg.injEq] at e2
  rw [e2]; rfl
/-- The j-th row. -/
theorem RowsOf.row {S : Nat → Prop} {w : World} {a : Option Addr} {vs : List (Array Value)} {L : List Nd} (h : RowsOf S w a vs L) {j : Nat} {n : Nd} (hj : L[j]? = some n) :
    ∃ b off da dc aa ac, a = some ⟨b, off, none⟩ ∧ S b ∧ (∀ r u, (ndC n (.slice da n.data.length dc) (.slice aa n.acl.length ac))[r]? = some u → w.cell? ⟨b, off + j * 17 + r, none⟩ = some u) ∧ CellsS S w da (n.data.map u8v) ∧ CellsS S w aa (acCs n.acl) ∧ vs[j]? = some (ndC n (.slice da n.data.length dc) (.slice aa n.acl.length ac)) := by
  have hjl := (List.getElem?_eq_some_iff.1 hj).1
  have hvk : vs[j]? = some (vs[j]'(by rw [h.len]; exact hjl)) := List.getElem?_eq_getElem _
  obtain ⟨n', hn', da, dc, aa, ac, e, hD, hA⟩ := h.each j _ hvk
  obtain rfl : n' = n := by rw [hj] at hn'; exact (Option.some.inj hn').symm
  simp only [Value.agg.injEq] at e
  rw [e] at hvk
  have hfl := flat17 vs j _ h.v17 hvk
  obtain ⟨b, off, rfl, hb, _⟩ := h.cells (j * 17 + 0) _ (hfl 0 (.string n'.path) rfl)
  refine ⟨b, off, da, dc, aa, ac, rfl, hb, fun r u hr => ?_, hD, hA, hvk⟩
  obtain ⟨b', off', e1, _, c1⟩ := h.cells (j * 17 + r) _ (hfl r u hr)
  simp only [Option.some.injEq, Addr.mk.injEq, and_true] at e1
  obtain ⟨rfl, rfl⟩ := e1
  rw [Nat.add_assoc]; exact c1

theorem infoNd17 : (Tryz.prog.info? 44).map (·.size) = some 17 := by kernel_rfl
theorem run_slice_to (a : Option Addr) (len cap i : Nat) (ha : ∀ p, a = some p → ∃ b off, p = ⟨b, off, none⟩) (hi : i ≤ cap) (W : World) : (Instr.slice 50 (.slice a len cap) none (some (.int .i64 i)) none).run Tryz.prog W = .ok (.slice a i cap) W := by
  have h1 : (0 : Int) ≤ i := by omega
  have h2 : (i : Int) ≤ cap := by omega
  obtain ⟨inf, hinf, hs⟩ := Option.map_eq_some_iff.1 infoNd17
  have hm : (if cap = 0 then a else a.map fun x => x.add 0) = a := by
    split
    · rfl
    · cases a with
      | none => rfl
      | some p =>
        obtain ⟨b, off, rfl⟩ := ha p rfl
        simp [Addr.add]
  simp [Instr.slice, Instr.sliceBounds, Instr.sliceBound, run_underlying Tryz.underlying50, asIntOf, Int.toNat_natCast, h1, h2, hi, sizeOf, typeInfo, hinf, hm, Sem.run, Result.andThen]
theorem run_slice_from (b off len cap i : Nat) (hi : i ≤ len) (hl : len ≤ cap) (W : World) : (Instr.slice 50 (.slice (some ⟨b, off, none⟩) len cap) (some (.int .i64 i)) none none).run Tryz.prog W = .ok (.slice (some (if cap = i then ⟨b, off, none⟩ else ⟨b, off + i * 17, none⟩)) (len - i) (cap - i)) W := by
  have h1 : (0 : Int) ≤ i := by omega
  have h2 : (i : Int) ≤ len := by omega
  obtain ⟨inf, hinf, hs⟩ := Option.map_eq_some_iff.1 infoNd17
  by_cases h0 : i = 0
  · subst h0
    by_cases hc : cap = 0 <;>
    simp [Instr.slice, Instr.sliceBounds, Instr.sliceBound, run_underlying Tryz.underlying50, asIntOf, sizeOf, typeInfo, hinf, hs, hc, Sem.run, Result.andThen, Addr.add]
  have h3 : ¬ i * 17 = 0 := by omega
  by_cases hc : cap = i <;>
  simp [Instr.slice, Instr.sliceBounds, Instr.sliceBound, run_underlying Tryz.underlying50, asIntOf, Int.toNat_natCast, h1, h2, hi, h0, h3, sizeOf, typeInfo, hinf, hs, hc, Sem.run, Result.andThen, Addr.add]
theorem run_slice_nil (W : World) : (Instr.slice 50 (.slice none 0 0) (some (.int .i64 0)) none none).run Tryz.prog W = .ok (.slice none 0 0) W := by
  obtain ⟨inf, hinf, hs⟩ := Option.map_eq_some_iff.1 infoNd17
  simp [Instr.slice, Instr.sliceBounds, Instr.sliceBound, run_underlying Tryz.underlying50, asIntOf, sizeOf, typeInfo, hinf, Sem.run, Result.andThen]

/-- A row of the call's own that shows nodes. -/
theorem RowsOf.of_own {S : Nat → Prop} {w : World} {base n : Nat} {v : Value} {vs : List (Array Value)} {L : List Nd} (h : w.ownsRow base 44 17 v n (vs.flatMap Array.toList)) (hn : n = L.length) (hl : vs.length = L.length) (hS : ∀ k, base ≤ k → k < w.heap.size → S k)
    (he : ∀ (j : Nat) (cs : Array Value), vs[j]? = some cs → ∃ n, L[j]? = some n ∧ NdS S w (.agg cs) n) : ∃ a c, v = .slice a n c ∧ n ≤ c ∧ c ≤ maxLen ∧ RowsOf S w a vs L ∧ PlainA a c := by
  rcases h.2 with ⟨rfl, h0⟩ | ⟨g, cap, cur, rfl, hb, hg, h1, h2, h3, h4⟩
  · have hL : L = [] := List.eq_nil_of_length_eq_zero (by omega)
    have hv : vs = [] := List.eq_nil_of_length_eq_zero (by rw [hl, hL]; rfl)
    subst h0 hL hv
    exact ⟨none, 0, rfl, Nat.le_refl _, Nat.zero_le _, ⟨rfl, fun j u hj => by simp at hj, he⟩, .inl ⟨rfl, rfl⟩⟩
  · refine ⟨some ⟨g, 0, none⟩, cap, rfl, h1, h2, ⟨hl, fun j u hj => ?_, he⟩, .inr ⟨g, 0, rfl⟩⟩
    have hc := h.cells (g := g) rfl j u hj
    rw [addr_add] at hc
    exact ⟨g, 0, rfl, hS g hb (Array.getElem?_eq_some_iff.1 hg).1, hc⟩

theorem flat_take (vs : List (Array Value)) (i : Nat) (h17 : ∀ x ∈ vs, x.size = 17) : (vs.flatMap Array.toList).take (i * 17) = (vs.take i).flatMap Array.toList := by
  induction vs generalizing i with
  | nil => simp
  | cons x vs ih =>
    cases i with
    | zero => simp
    | succ i =>
      have hx : x.toList.length = 17 := by simpa using h17 x (List.mem_cons_self ..)
      rw [List.take_succ_cons, List.flatMap_cons, List.flatMap_cons, ← ih i fun y hy => h17 y (List.mem_cons_of_mem _ hy), List.take_append, List.take_of_length_le (by omega), hx, show (i + 1) * 17 - 17 = i * 17 by omega]
theorem flat_drop (vs : List (Array Value)) (i : Nat) (h17 : ∀ x ∈ vs, x.size = 17) : (vs.flatMap Array.toList).drop (i * 17) = (vs.drop i).flatMap Array.toList := by
  induction vs generalizing i with
  | nil => simp
  | cons x vs ih =>
    cases i with
    | zero => simp
    | succ i =>
      have hx : x.toList.length = 17 := by simpa using h17 x (List.mem_cons_self ..)
      rw [List.drop_succ_cons, List.flatMap_cons, ← ih i fun y hy => h17 y (List.mem_cons_of_mem _ hy), List.drop_append, List.drop_eq_nil_of_le (by omega), hx, show (i + 1) * 17 - 17 = i * 17 by omega, List.nil_append]
theorem flat_len (vs : List (Array Value)) (h17 : ∀ x ∈ vs, x.size = 17) : (vs.flatMap Array.toList).length = vs.length * 17 := by
  induction vs with
  | nil => rfl
  | cons x vs ih =>
    have hx : x.toList.length = 17 := by simpa using h17 x (List.mem_cons_self ..)
    rw [List.flatMap_cons, List.length_append, hx, ih fun y hy => h17 y (List.mem_cons_of_mem _ hy), List.length_cons]; omega
theorem RowsOf.one {S : Nat → Prop} {w : World} {a : Option Addr} {vs : List (Array Value)} {L : List Nd} (h : RowsOf S w a vs L) : ∀ u ∈ vs.flatMap Array.toList, u.oneCell' = true := fun u hu => by
  obtain ⟨x, hx, hux⟩ := List.mem_flatMap.1 hu
  obtain ⟨i, hi, ei⟩ := List.getElem_of_mem hx
  obtain ⟨n2, _, da2, dc2, aa2, ac2, e2, _⟩ := h.each i x (by rw [List.getElem?_eq_getElem hi, ei])
  simp only [Value.agg.injEq] at e2
  have := cells_node n2 da2 aa2 n2.data.length n2.acl.length dc2 ac2
  rw [← e2, ← Array.all_toList] at this
  exact List.all_eq_true.1 this u hux

/-- What a slice's first places show, and what those behind them. -/
theorem RowsOf.src_to {S : Nat → Prop} {w : World} {a : Option Addr} {vs : List (Array Value)} {L : List Nd} (h : RowsOf S w a vs L) {i cap : Nat} (hi : i ≤ L.length) (hS : ∀ k, S k → k < w.heap.size) : Src Tryz.prog 17 50 (.slice a i cap) i ((vs.take i).flatMap Array.toList) w := by
  have h17 : ∀ x ∈ vs.take i, x.size = 17 := fun x hx => h.v17 x (List.mem_of_mem_take hx)
  have hc : Cells w.heap.size w a ((vs.take i).flatMap Array.toList) := fun j u hj => by
    rw [← flat_take vs i h.v17, List.getElem?_take] at hj
    split at hj
    · obtain ⟨b, off, e, hb, hc⟩ := h.cells j u hj
      exact ⟨b, off, e, hS b hb, hc⟩
    · cases hj
  exact hc.src Tryz.underlying50 i cap (by rw [flat_len _ h17, List.length_take, h.len]; congr 1; omega) fun u hu => h.one u (by
    rw [← flat_take vs i h.v17] at hu
    exact List.mem_of_mem_take hu)
theorem RowsOf.src_from {S : Nat → Prop} {w : World} {b off : Nat} {vs : List (Array Value)} {L : List Nd} (h : RowsOf S w (some ⟨b, off, none⟩) vs L) {i cap : Nat} (hi : i ≤ L.length) (hl : L.length ≤ cap) (hS : ∀ k, S k → k < w.heap.size) : Src Tryz.prog 17 50 (.slice (some (if cap = i then ⟨b, off, none⟩ else ⟨b, off + i * 17, none⟩)) (L.length - i) (cap - i)) (L.length - i) ((vs.drop i).flatMap Array.toList) w := by
  have h17 : ∀ x ∈ vs.drop i, x.size = 17 := fun x hx => h.v17 x (List.mem_of_mem_drop hx)
  have hc : Cells w.heap.size w (some (if cap = i then ⟨b, off, none⟩ else ⟨b, off + i * 17, none⟩)) ((vs.drop i).flatMap Array.toList) := fun j u hj => by
    rw [← flat_drop vs i h.v17, List.getElem?_drop] at hj
    obtain ⟨b', off', e, hb, hc⟩ := h.cells (i * 17 + j) u hj
    simp only [Option.some.injEq, Addr.mk.injEq, and_true] at e
    obtain ⟨rfl, rfl⟩ := e
    by_cases hci : cap = i
    · exfalso
      have h1 := (List.getElem?_eq_some_iff.1 hj).1
      rw [flat_len _ h.v17, h.len] at h1
      omega
    · rw [if_neg hci]
      exact ⟨b, off + i * 17, rfl, hS b hb, by rw [Nat.add_assoc]; exact hc⟩
  exact hc.src Tryz.underlying50 _ _ (by rw [flat_len _ h17, List.length_drop, h.len]) fun u hu => h.one u (by
    rw [← flat_drop vs i h.v17] at hu
    exact List.mem_of_mem_drop hu)

theorem wpList_store_one {P : Program} {ops : Array Oper} {rest : List Oper} {o : Oper} {a : Act} {Q : Exit → Act → World → Prop} {w : World} (hgd : o.guard = none) (ty : TypeId) (x y : Operand) (ho : o.op = .store ty x y)
    (g : Nat) (v : Value) (hx : a.eval x = .pointer (some ⟨g, 0, none⟩)) (hy : a.eval y = v) (h1 : v.oneCell' = true) (t : TypeId) (old : Value) (hg : w.heap[g]? = some (.cells #[old] t (0, 0))) (hi : (P.info? ty).map (·.size) = some 1)
    (hK : wpList P ops Q rest (a.put o.dst undef) (w.setRow g #[v])) : wpList P ops Q (o :: rest) a w :=
  wpList_plain hgd fun _ hK' => wp_skipped (run_store_one ty x y ho g v hx hy h1 t old hg hi) (hK' _ _ hK)

def EachN (S : Nat → Prop) (w : World) (vs : List (Array Value)) (L : List Nd) : Prop := vs.length = L.length ∧ ∀ (j : Nat) (cs : Array Value), vs[j]? = some cs → ∃ n, L[j]? = some n ∧ NdS S w (.agg cs) n
theorem EachN.append {S : Nat → Prop} {w : World} {vs vs' : List (Array Value)} {L L' : List Nd} (h : EachN S w vs L) (k : EachN S w vs' L') : EachN S w (vs ++ vs') (L ++ L') := by
  refine ⟨by rw [List.length_append, List.length_append, h.1, k.1], fun j cs hj => ?_⟩
  by_cases hl : j < vs.length
  · rw [List.getElem?_append_left hl] at hj
    rw [List.getElem?_append_left (by rw [← h.1]; exact hl)]
    exact h.2 j cs hj
  · rw [List.getElem?_append_right (by omega)] at hj
    rw [List.getElem?_append_right (by rw [← h.1]; omega), ← h.1]
    exact k.2 _ cs hj
theorem EachN.take {S : Nat → Prop} {w : World} {vs : List (Array Value)} {L : List Nd} (h : EachN S w vs L) (i : Nat) : EachN S w (vs.take i) (L.take i) := by
  refine ⟨by rw [List.length_take, List.length_take, h.1], fun j cs hj => ?_⟩
  rw [List.getElem?_take] at hj ⊢
  split at hj
  · rename_i hlt; rw [if_pos hlt]; exact h.2 j cs hj
  · cases hj
theorem EachN.drop {S : Nat → Prop} {w : World} {vs : List (Array Value)} {L : List Nd} (h : EachN S w vs L) (i : Nat) : EachN S w (vs.drop i) (L.drop i) := by
  refine ⟨by rw [List.length_drop, List.length_drop, h.1], fun j cs hj => ?_⟩
  rw [List.getElem?_drop] at hj ⊢
  exact h.2 _ cs hj
theorem EachN.one {S : Nat → Prop} {w : World} {cs : Array Value} {n : Nd} (h : NdS S w (.agg cs) n) : EachN S w [cs] [n] := by
  refine ⟨rfl, fun j c hj => ?_⟩
  cases j with
  | zero => simp at hj; subst hj; exact ⟨n, rfl, h⟩
  | succ j => simp at hj
theorem grown_of_ext {a b : World} (h : Ext a b) (row : Option Nat) : a.grownBy b row := ⟨h.os, h.tape, h.output, h.size, fun k hk _ => h.block k hk⟩


/-- As an argument's list of nodes. -/
theorem RowsOf.nds {S : Nat → Prop} {w : World} {a : Option Addr} {vs : List (Array Value)} {L : List Nd} (h : RowsOf S w a vs L) {B : Nat} (hS : ∀ k, S k → k < B) : NdsAt B w a L := fun i n hi => by
  obtain ⟨b, off, da, dc, aa, ac, e, hb, hc, hD, hA, _⟩ := h.row hi
  exact ⟨b, off, _, e, hS b hb, ⟨da, dc, aa, ac, rfl, hD.cells hS, hA.cells hS⟩, hc⟩
end Go.Proofs.YthinpbdbhijbgaaGreatDoor
