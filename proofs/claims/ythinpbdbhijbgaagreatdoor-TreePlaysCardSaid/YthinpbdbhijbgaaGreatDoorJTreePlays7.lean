/- The walk of the function that a tree's nodes are told by: what each round is handed, what it keeps. Arms for a walk within a fence, a round's too. The walk of the law's All: a range over a tree's nodes. The walk of Count. The walk of the law's own small tree. A range over a tree's nodes: the loop variable in a box of its own. Plain laws: when two structs are equal, as the model has it. The walks of the reference's look whether two nodes are alike. -/
import Derived.Test.YthinpbdbhijbgaaGreatDoorJTreePlays6
import Derived.TacticsIn
import Derived.Deep.CutBlock
import Derived.Test.YthinpbdbhijbgaaGreatDoorJTreePlays4
import Derived.OrdersIn
import Derived.RangeFuncLeaves
import Derived.OwnWalkIn
import Derived.TacticsInMore
import Derived.Great.BuildSlice
import Derived.Test.YthinpbdbhijbgaaGreatDoorJTreePlays5
import Derived.Test.YthinpbdbhijbgaaGreatDoorJTreePlays2
namespace Go.Proofs.YthinpbdbhijbgaaGreatDoor
open Go.RowKit Go.Sort
set_option maxHeartbeats 2000000
set_option maxRecDepth 100000

section
variable {P : Program} {n : Nat} {o : Oper} {a : Act} {w : World} {K : Act → World → Prop} {Q : Exit → Act → World → Prop}
theorem operIn_value {w' : World} {v : Value} (h : (execOp a.eval o).run P w = .ok (.value v) w') (hK : K (a.put o.dst v) w') : o.wpIn Fence.wide n P a w K Q := by
  refine ⟨fun _ _ => trivial, ?_⟩
  rw [show (o.semAt Fence.wide.round a.eval) = execOp a.eval o from rfl, h]
  exact hK
theorem operIn_enter {f : FuncId} {args : Array Value} {R : Ending → World → Prop} (h : (execOp a.eval o).run P w = .ok (.enter f args) w) (hc : Calls P f args w R) (hR : ∀ e w', R e w' → ∃ v, e = .returned v ∧ K (a.put o.dst v) w') : o.wpIn Fence.wide n P a w K Q := by
  refine ⟨fun _ _ => trivial, ?_⟩
  rw [show (o.semAt Fence.wide.round a.eval) = execOp a.eval o from rfl, h]
  refine ⟨(fun h => by cases h), callsIn_wide.2 (hc.mono fun e w' hr => ?_)⟩
  obtain ⟨v, rfl, hk⟩ := hR e w' hr
  exact hk
theorem operIn_round {l f : Nat} {tmps : Array Value} {assign body : Code} {R : Ending → World → Prop} (h : (execOp a.eval o).run P w = .ok (.round l f tmps assign body) w) (hc : RoundIn Fence.wide (n - 1) P l f tmps assign body w R) (hR : ∀ e w', R e w' → ∃ v, e = .returned v ∧ K (a.put o.dst v) w') : o.wpIn Fence.wide n P a w K Q := by
  refine ⟨fun _ _ => trivial, ?_⟩
  rw [show (o.semAt Fence.wide.round a.eval) = execOp a.eval o from rfl, h]
  refine ⟨(fun h => by cases h), hc.mono fun e w' hr => ?_⟩
  obtain ⟨v, rfl, hk⟩ := hR e w' hr
  exact hk
theorem ex_yield {x : Operand} {args : Array Operand} {ts : Array TypeId} {l f : Nat} {tmps : Array Value} {assign body : Code} (ho : o.op = .call { callee := .value x, args := args, argTypes := ts }) (hx : a.eval x = .func (.yield l) #[] #[])
    (hy : (Instr.yield l (args.map a.eval)).run P w = .ok (.round l f tmps assign body) w) : (execOp a.eval o).run P w = .ok (.round l f tmps assign body) w := by
  simp [execOp, ho, resolve, hx, Deferred.ofValue, invoke, hy]
end

theorem infoNd : (Tryz.prog.info? 44).map (fun i => (i.zero, i.size, i.bytes)) = some (some (.agg zeroNd), 17, 168) := by kernel_rfl
theorem infoStr : (Tryz.prog.info? 9).map (fun i => (i.zero, i.size, i.bytes)) = some (some (.string ⟨#[]⟩), 1, 16) := by kernel_rfl

/-- What a round keeps: the cells that are safe. -/
def KeepS (Safe : World → Nat → Prop) (W W' : World) : Prop :=
  W.heap.size ≤ W'.heap.size ∧ ∀ k c e f, W.heap[k]? = some (.cells c e f) → Safe W k → W'.heap[k]? = some (.cells c e f) ∧ Safe W' k
/-- What a round is handed: a node, its cells safe. -/
def GS (Safe : World → Nat → Prop) (x : Value × Nd) (W : World) : Prop := NdS (fun b => Safe W b ∧ b < W.heap.size) W x.1 x.2
def nodesOf (M : List (Key × Nd)) (ks : List Key) : List Nd := ks.map fun k => (mget M k).getD zeroN

/-- The blocks that are told from stay and are safe. -/
def Pers (Safe : World → Nat → Prop) (P2 : Nat → Prop) (W2 wr : World) : Prop :=
  W2.heap.size ≤ wr.heap.size ∧ ∀ b c e f, P2 b → W2.heap[b]? = some (.cells c e f) → wr.heap[b]? = some (.cells c e f) ∧ Safe wr b
theorem Pers.ext {Safe : World → Nat → Prop} {P2 : Nat → Prop} {W2 A B : World} (h : Pers Safe P2 W2 A) (he : Ext A B) (hs : ∀ k, Safe A k → Safe B k) : Pers Safe P2 W2 B :=
  ⟨Nat.le_trans h.1 he.size, fun b c e f hb hc => by
    obtain ⟨h1, h2⟩ := h.2 b c e f hb hc
    exact ⟨(he.block b (Array.getElem?_eq_some_iff.1 h1).1).trans h1, hs _ h2⟩⟩
theorem Pers.keep {Safe : World → Nat → Prop} {P2 : Nat → Prop} {W2 A B : World} (h : Pers Safe P2 W2 A) (hk : KeepS Safe A B) : Pers Safe P2 W2 B :=
  ⟨Nat.le_trans h.1 hk.1, fun b c e f hb hc => by
    obtain ⟨h1, h2⟩ := h.2 b c e f hb hc
    exact hk.2 b c e f h1 h2⟩
theorem Pers.cell {Safe : World → Nat → Prop} {P2 : Nat → Prop} {W2 A : World} (h : Pers Safe P2 W2 A) {b o : Nat} {u : Value} (hb : P2 b) (hu : W2.cell? ⟨b, o, none⟩ = some u) : A.cell? ⟨b, o, none⟩ = some u := by
  obtain ⟨c, e, f, hk⟩ := cell_cells hu
  rw [World.cell?_of_block ((h.2 b c e f hb hk).1.trans hk.symm)]
  exact hu

theorem flat17 : ∀ (vs : List (Array Value)) (i : Nat) (cs : Array Value), (∀ x ∈ vs, x.size = 17) → vs[i]? = some cs → ∀ j u, cs[j]? = some u → (vs.flatMap Array.toList)[i * 17 + j]? = some u
  | [], i, cs, _, h, _, _, _ => by simp at h
  | x :: vs, 0, cs, hs, h, j, u, hj => by
    simp at h
    subst h
    have hx := hs x (by simp)
    have hjl := (Array.getElem?_eq_some_iff.1 hj).1
    rw [List.flatMap_cons, Nat.zero_mul, Nat.zero_add, List.getElem?_append_left (by simpa using hjl)]
    simpa using hj
  | x :: vs, i + 1, cs, hs, h, j, u, hj => by
    have hx := hs x (by simp)
    rw [List.flatMap_cons, List.getElem?_append_right (by simp [hx]; omega)]
    have := flat17 vs i cs (fun y hy => hs y (by simp [hy])) (by simpa using h) j u hj
    rw [show (i + 1) * 17 + j - x.toList.length = i * 17 + j by simp [hx]; omega]
    exact this

theorem ownBlock_ge {w : World} {base e size n : Nat} {v : Value} {xs : List Value} (h : w.ownsRow base e size v n xs) (k : Nat) (hk : v.ownBlock = some k) : base ≤ k := by
  rcases h.2 with ⟨rfl, _⟩ | ⟨g, cap, cur, rfl, hb, _⟩
  · simp [Value.ownBlock] at hk
  · simp [Value.ownBlock] at hk; omega

set_option maxHeartbeats 4000000 in
theorem told_tells (Safe : World → Nat → Prop) (S0 : Nat → Prop) (w : World) (bt : Nat) (M : List (Key × Nd)) (N : Nat) (hT : TreeAt S0 w bt M N) (hsafe : ∀ k, S0 k → Safe w k) (bw btb fw : Nat) (bnd cap : Array Value)
    (hcw : w.cell? ⟨bw, 0, none⟩ = some (.func (.func fw) bnd cap)) (hct : w.cell? ⟨btb, 0, none⟩ = some (.pointer (some ⟨bt, 0, none⟩)))
    (hen : ∀ args w, (callFunc fw args).run Tryz.prog w = .ok (.enter fw args) w) (ks : List Key) (hw : ∀ W, Ext w W → Calls Tryz.prog fw (bnd ++ cap) W (SortedOut ks W)) (hks : ks.length * 168 ≤ 140737488355328) (hkl : ∀ k ∈ ks, k.length ≤ maxLen) :
    Tells Fence.wide 5 Tryz.prog 195 #[.pointer (some ⟨bw, 0, none⟩), .pointer (some ⟨btb, 0, none⟩)] (fun x : Value × Nd => #[x.1]) (GS Safe) (KeepS Safe) Safe
      (fun xs => xs.map (·.2) = nodesOf M ks) (fun pre => ∃ rest, pre.map (·.2) ++ rest = nodesOf M ks) w := by
  intro l J Jx W hW hSW hJ hY h0
  refine callsIn_wide.2 ?_
  have hTW := hT.ext hW
  have hbnd := hT.bound
  have hbtl := hT.bound
  have hcwW : W.cell? ⟨bw, 0, none⟩ = some (.func (.func fw) bnd cap) := (hW.cell (p := ⟨bw, 0, none⟩) (World.block_lt_of_cell? _ _ hcw)).trans hcw
  have hctW : W.cell? ⟨btb, 0, none⟩ = some (.pointer (some ⟨bt, 0, none⟩)) := (hW.cell (p := ⟨btb, 0, none⟩) (World.block_lt_of_cell? _ _ hct)).trans hct
  have hbtlt : btb < W.heap.size := World.block_lt_of_cell? _ _ hctW
  have CW := hw W hW
  have HY := Lib.hid hY
  have HJ := Lib.hid hJ
  have HT := Lib.hid hTW
  have CW := Lib.hid CW
  have HSW := Lib.hid hSW
  have HSafe := Lib.hid hsafe
  clear hcw hct hT hw hY hJ hTW hSW hsafe
  go_enter Tryz.func195, Tryz.ntmps195
  go_wp2_with fail
  refine CW.out.mono ?_
  rintro e W1 ⟨v, rfl, hrow, hnil, hE1⟩
  obtain ⟨sa, sc, rfl, hcs⟩ := ownsRow_cells hrow
  have hT1 := HT.out.ext hE1
  have hz1 := hE1.size
  have hct1 : W1.cell? ⟨btb, 0, none⟩ = some (.pointer (some ⟨bt, 0, none⟩)) := (hE1.cell (p := ⟨btb, 0, none⟩) hbtlt).trans hctW
  have hlen : ks.length ≤ 9223372036854775807 := by omega
  clear CW hrow hnil hcwW hctW
  go_wp2
  go_loopw [4, 12] (fun lv i wr => ∃ (k : Nat) (vs : List (Array Value)), k ≤ ks.length ∧ i = .int .i64 k ∧ vs.length = k ∧ wr.ownsRow W1.heap.size 44 17 lv k (vs.flatMap Array.toList) ∧ Ext W1 wr ∧ (∀ x ∈ vs, x.size = 17) ∧ Hid (∀ (j : Nat) (cs : Array Value), vs[j]? = some cs → ∃ n, (nodesOf M ks)[j]? = some n ∧ NdS S0 W1 (.agg cs) n)) (fun _ i _ => ks.length - (intOf i).toNat)
  case atStart => exact ⟨0, [], Nat.zero_le _, rfl, rfl, World.ownsRow_nil _ _ _ _, Ext.refl _, by simp, by unfold Hid; simp⟩
  case round =>
    obtain ⟨k, vs, hk, rfl, hvl, hown, hEr, hv17, HV⟩ := hrel
    by_cases hlt : k < ks.length
    · obtain ⟨b, off, rfl, hb, hc⟩ := hcs k (encStr ks[k]) (by rw [List.getElem?_map, List.getElem?_eq_getElem hlt]; rfl)
      have hcr : wr.cell? ⟨b, off + k, none⟩ = some (encStr ks[k]) := (hEr.cell (p := ⟨b, off + k, none⟩) hb).trans hc
      have hkz : (⟨ks[k].toArray⟩ : ByteArray).size ≤ maxLen := by
        have := hkl ks[k] (List.getElem_mem hlt)
        rw [← size_list]; simpa using this
      have hTr := hT1.ext hEr
      obtain ⟨bn, bk, K, hd, hNd, hKd⟩ := hTr
      have hx := TreeAt.box hd
      obtain ⟨vv, hvv, _, hq⟩ := hNd.look' ⟨ks[k].toArray⟩ hkz
      rw [key_back] at hvv
      have hvv1 : NdS S0 W1 vv ((mget M ks[k]).getD zeroN) := hvv.imp (fun _ h => h) (fun b o u hb hu => (hEr.cell (p := ⟨b, o, none⟩) (hT1.bound b hb)).symm.trans hu)
      obtain ⟨da, dc, aa, ac, rfl, _⟩ := hvv
      generalize hn : (mget M ks[k]).getD zeroN = n at *
      have hsnoc : (vs ++ [ndC n (.slice da n.data.length dc) (.slice aa n.acl.length ac)]).flatMap Array.toList = vs.flatMap Array.toList ++ (ndC n (.slice da n.data.length dc) (.slice aa n.acl.length ac)).toList := by simp
      have HV2 : Hid (∀ (j : Nat) (cs : Array Value), (vs ++ [ndC n (.slice da n.data.length dc) (.slice aa n.acl.length ac)])[j]? = some cs → ∃ n, (nodesOf M ks)[j]? = some n ∧ NdS S0 W1 (.agg cs) n) := by
        intro j cs hj
        by_cases hjk : j < vs.length
        · rw [List.getElem?_append_left hjk] at hj
          exact HV.out j cs hj
        · rw [List.getElem?_append_right (by omega)] at hj
          have hj0 : j = vs.length := by
            have := (List.getElem?_eq_some_iff.1 hj).1
            simp at this; omega
          subst hj0
          simp at hj
          subst hj
          refine ⟨n, ?_, hvv1⟩
          unfold nodesOf
          rw [List.getElem?_map, hvl, List.getElem?_eq_getElem hlt, Option.map_some, hn]
      have hct : wr.cell? ⟨btb, 0, none⟩ = some (.pointer (some ⟨bt, 0, none⟩)) := (hEr.cell (p := ⟨btb, 0, none⟩) (show btb < W1.heap.size by omega)).trans hct1
      have hs17 : Cells (wr.alloc (.cells (ndC n (.slice da n.data.length dc) (.slice aa n.acl.length ac)) 44)).heap.size (wr.alloc (.cells (ndC n (.slice da n.data.length dc) (.slice aa n.acl.length ac)) 44)) (some ⟨wr.heap.size, 0, none⟩) (ndC n (.slice da n.data.length dc) (.slice aa n.acl.length ac)).toList := fun j u hj => by
        refine ⟨_, 0, rfl, by simp, ?_⟩
        rw [Nat.zero_add, cell_of_row _ _ _ _ _ _ (heap_alloc_new wr _)]
        simpa using hj
      have hsrc : Src Tryz.prog 17 50 (.slice (some ⟨wr.heap.size, 0, none⟩) 1 1) 1 (ndC n (.slice da n.data.length dc) (.slice aa n.acl.length ac)).toList (wr.alloc (.cells (ndC n (.slice da n.data.length dc) (.slice aa n.acl.length ac)) 44)) :=
        hs17.src Tryz.underlying50 1 1 (by simp [ndC]) (fun u hu => by
          have := cells_node n da aa n.data.length n.acl.length dc ac
          rw [← Array.all_toList] at this
          exact List.all_eq_true.1 this u hu)
      obtain ⟨i0, hi, hz0, hz1', hz2⟩ := info_parts infoNd
      have hownA := hown.alloc (.cells (ndC n (.slice da n.data.length dc) (.slice aa n.acl.length ac)) 44)
      have hzr := hEr.size
      have HSN := Lib.hid hsnoc
      unfold Box treeC at hx
      unfold ndC at hq hsrc hownA
      clear hsnoc hd hNd hKd hs17 hvv1 hcs hn hc HV
      go_wp2_with (at_builtin; refine wpList_append_src _ rfl (.tmp 16) (.tmp 23) 50 50 rfl W1.heap.size 44 i0 (.agg zeroNd) 17 168 Tryz.underlying50 hi hz0 hz1' hz2 rfl (by decide) _ k _ rfl hownA _ 1 _ rfl hsrc ?c1 ?c2 ?c3 ?_)
      case c1 => unfold maxLen; omega
      case c2 => omega
      case c3 => first | omega | (simp; omega)
      intro v' w5 hown5 hg5 _ _
      have hE5 : Ext W1 w5 := (Below.alloc hEr hzr _).grown hg5 (by simp; omega) (fun g hg => ownBlock_ge hown g hg)
      rw [show [Value.string n.path, .slice da n.data.length dc, .slice aa n.acl.length ac, .int .i64 n.owner, .int .i64 n.czxid, .int .i64 n.mzxid, .int .i64 n.pzxid, .int .i64 n.azxid, .int .i64 n.qzxid, .int .i64 n.ctime, .int .i64 n.mtime, .int .i32 n.version, .int .i32 n.creates, .int .i32 n.aversion, .bool n.has, .int .i64 n.count, .int .i64 n.bytes] = (ndC n (.slice da n.data.length dc) (.slice aa n.acl.length ac)).toList from rfl, ← HSN.out] at hown5
      have HO5 := Lib.hid hown5
      clear hown5 hg5 hown hownA hsrc hEr hcr hct hx hq
      go_wp2
      go_roundw
      case rel =>
        refine ⟨k + 1, _, by omega, by go_num, by simp [hvl], HO5.out, hE5, fun x hx => ?_, HV2⟩
        rcases List.mem_append.1 hx with hx | hx
        · exact hv17 x hx
        · simp at hx; subst hx; rfl
      case measure => simp [intOf]; omega
    · obtain rfl : k = ks.length := by omega
      obtain ⟨la, lc, rfl, hrows⟩ := ownsRow_from hown
      have hJ2 := HJ.out [] W wr h0 (hE1.trans hEr)
      obtain ⟨hJ0, hSm, hSn⟩ := hJ2
      obtain ⟨W2, hW2⟩ : ∃ W2, W2 = wr := ⟨_, rfl⟩
      have hP0 : Pers Safe (fun b => S0 b ∨ W1.heap.size ≤ b) W2 wr := by
        rw [hW2]
        refine ⟨Nat.le_refl _, fun b c e f hb hc => ⟨hc, ?_⟩⟩
        rcases hb with hb | hb
        · exact hSm b (HSW.out b (hbnd b hb) (HSafe.out b hb))
        · exact hSn b (by omega)
      rw [← hW2] at hrows hEr
      clear hW2 hSm hSn hown h0 hcs hct1 HSW HSafe HT hW
      have hvs : ∀ (k : Nat), k < ks.length → ∃ (n : Nd) (da : Option Addr) (dc : Nat) (aa : Option Addr) (ac : Nat), (nodesOf M ks)[k]? = some n ∧ vs[k]? = some (ndC n (.slice da n.data.length dc) (.slice aa n.acl.length ac)) ∧ CellsS S0 W1 da (n.data.map u8v) ∧ CellsS S0 W1 aa (acCs n.acl) ∧ Fit n := fun k hk => by
        have hvk : vs[k]? = some (vs[k]'(by omega)) := List.getElem?_eq_getElem (by omega)
        obtain ⟨n, hn, da, dc, aa, ac, e, h1, h2⟩ := HV.out k _ hvk
        refine ⟨n, da, dc, aa, ac, hn, ?_, h1, h2, ?_⟩
        · rw [hvk]; simp only [Value.agg.injEq] at e; rw [e]
        · unfold nodesOf at hn
          rw [List.getElem?_map, List.getElem?_eq_getElem hk] at hn
          simp at hn
          rw [← hn]
          obtain ⟨_, _, _, _, hNd, _⟩ := hT1
          exact hNd.ok.fit _
      have HVS := Lib.hid hvs
      have HRows := Lib.hid hrows
      have HEr := Lib.hid hEr
      have hnl : (nodesOf M ks).length = ks.length := by simp [nodesOf]
      have HNL := Lib.hid hnl
      have H17 := Lib.hid hv17
      clear hvs hrows hEr hv17 HV hnl hE1 hvl
      go_wp2
      go_loopw [28] (fun i wt => ∃ (k : Nat) (pre : List (Value × Nd)), k ≤ ks.length ∧ i = .int .i64 k ∧ Hid (pre.map (·.2) = (nodesOf M ks).take k) ∧ J pre wt ∧ Pers Safe (fun b => S0 b ∨ W1.heap.size ≤ b) W2 wt) (fun i _ => ks.length - (intOf i).toNat)
      case atStart => exact ⟨0, [], Nat.zero_le _, rfl, rfl, hJ0, hP0⟩
      case round =>
        obtain ⟨k, pre, hk, rfl, HPre, hJk, hPk⟩ := hrel
        by_cases hlt : k < ks.length
        · obtain ⟨n, da, dc, aa, ac, hn, hv, hD, hA, hfit⟩ := HVS.out k hlt
          have hfl := flat17 vs k _ H17.out hv
          obtain ⟨g, off, rfl, _, _, _⟩ := HRows.out (k * 17 + 0) _ (hfl 0 (.string n.path) rfl)
          have hcw : ∀ j u, (ndC n (.slice da n.data.length dc) (.slice aa n.acl.length ac))[j]? = some u → wr.cell? ((⟨g, off + k * 17, none⟩ : Addr).add j) = some u := fun j u hj => by
            obtain ⟨g', off', e, h1, h2, h3⟩ := HRows.out (k * 17 + j) u (hfl j u hj)
            simp only [Option.some.injEq, Addr.mk.injEq, and_true] at e
            obtain ⟨rfl, rfl⟩ := e
            rw [addr_add, Nat.add_assoc]
            exact hPk.cell (.inr h1) h3
          obtain ⟨W4, hW4⟩ : ∃ W4, W4 = wr.alloc (.cells (ndC n (.slice da n.data.length dc) (.slice aa n.acl.length ac)) 44) := ⟨_, rfl⟩
          have hE4 : Ext wr W4 := by rw [hW4]; exact Ext.alloc _ _
          have hz4 : W4.heap.size = wr.heap.size + 1 := by rw [hW4]; simp
          have hn4 : W4.heap[wr.heap.size]? = some (.cells (ndC n (.slice da n.data.length dc) (.slice aa n.acl.length ac)) 44 (0, 0)) := by rw [hW4]; exact heap_alloc_new wr _
          obtain ⟨hJ4, hSm4, _⟩ := HJ.out pre wr W4 hJk hE4
          have hP4 := hPk.ext hE4 hSm4
          have hcell4 : ∀ (b o : Nat) u, S0 b → W1.cell? ⟨b, o, none⟩ = some u → W4.cell? ⟨b, o, none⟩ = some u := fun b o u hb hu =>
            hP4.cell (.inl hb) ((HEr.out.cell (p := ⟨b, o, none⟩) (hT1.bound b hb)).trans hu)
          have hbz : ∀ b, S0 b → b < W4.heap.size := fun b hb => by
            have := hT1.bound b hb
            have := HEr.out.size
            have := hP4.1
            omega
          have hD4 : Cells W4.heap.size W4 da (n.data.map u8v) := (hD.imp (fun _ h => h) hcell4).cells hbz
          have hA4 : Cells W4.heap.size W4 aa (acCs n.acl) := (hA.imp (fun _ h => h) hcell4).cells hbz
          have C4 := sclone_nd n da aa dc ac W4 hfit hD4 hA4
          have HC := Lib.hid hcw
          have HN := Lib.hid hn4
          have HSET := Lib.hid ((setRow_alloc wr zeroNd (ndC n (.slice da n.data.length dc) (.slice aa n.acl.length ac)) 44).trans hW4.symm)
          have HNew := Lib.hid (heap_alloc_new wr (.cells zeroNd 44))
          have HNk := Lib.hid hn
          have C4 := Lib.hid C4
          unfold ndC at HC HN HSET
          unfold zeroNd at HSET HNew
          clear hcw hW4 hn4 hfl hv hD hA hJk hPk hcell4 hD4 hA4 hE4 hSm4 hbz hn
          go_upto_region 9 with (first | (refine wpList_load_at rfl 44 (.tmp 30) rfl _ rfl _ _ HC.out Tryz.underlying44 rfl sizeNd ?_) | (refine wpList_store_row rfl 44 (.tmp 8) (.tmp 31) rfl wr.heap.size _ rfl rfl 44 _ HNew.out sizeNd rfl (cells_node n da aa _ _ dc ac) ?_; rw [HSET.out]))
          rw [put_none]
          refine (wpIn_wide (n := 5)).1 (wpIn_region_list ?_)
          refine wpListIn_plain rfl fun K1 hK1 => operIn_value (ex_move rfl) (hK1 _ _ ?_)
          refine wpListIn_plain rfl fun K2 hK2 => operIn_value (ex_load_row rfl wr.heap.size rfl 44 _ (0, 0) _ HN.out Tryz.underlying44 rfl sizeNd) (hK2 _ _ ?_)
          refine wpListIn_plain rfl fun K3 hK3 => operIn_enter (ex_call rfl (enters_f Tryz.func129 (by kernel_rfl) rfl)) (R := CloneS n W4) (by simp only [List.map_toArray, List.map_cons, List.map_nil]; exact C4.out) ?_
          rintro e W5 ⟨v, rfl, hv, hE5⟩
          refine ⟨_, rfl, hK3 _ _ ?_⟩
          have hq5 := HJ.out pre W4 W5 hJ4 hE5
          have hJ5 := hq5.1
          have hP5 := hP4.ext hE5 hq5.2.1
          have hG5 : GS Safe (v, n) W5 := hv.imp (fun b hb => ⟨hq5.2.2 b hb.1, hb.2⟩) (fun _ _ _ _ h => h)
          have HPre2 : Hid ((pre ++ [(v, n)]).map (·.2) = (nodesOf M ks).take (k + 1)) := by
            unfold Hid
            rw [List.map_append, HPre.out, List.take_add_one, HNk.out]
            rfl
          have hY5 := HY.out pre (v, n) W5 ⟨(nodesOf M ks).drop (k + 1), by rw [HPre2.out, List.take_append_drop]⟩ hJ5 hG5
          clear hq5 hG5 hv HPre
          revert hY5
          rintro ⟨fn, tmps, assign, body, hy, hR⟩
          refine wpListIn_plain rfl fun K4 hK4 => operIn_round (ex_yield rfl rfl (by simp only [List.map_toArray, List.map_cons, List.map_nil]; exact hy)) hR ?_
          rintro e W6 (⟨rfl, hJ6, hKp⟩ | ⟨rfl, hJx6⟩)
          · refine ⟨_, rfl, hK4 _ _ ?_⟩
            refine wpListIn_plain rfl fun K5 hK5 => operIn_value (v := .bool false) (w' := W6) (by kernel_rfl) (hK5 _ _ ?_)
            refine wpListIn_nil ?_
            have hP6 := hP5.keep hKp
            clear hK1 hK2 hK3 hK4 hK5 hy hR hJ5 hP5 hJ4 hP4 C4 HC HN HSET HNew hKp
            simp only [Exit.then, Act.put]
            go_simp
            rename_i hKd
            refine hKd _ _ ?_
            clear hKd
            go_wp2
            go_roundw
            case rel => exact ⟨k + 1, _, by omega, by go_num, HPre2, hJ6, hP6⟩
            case measure => simp [intOf]; omega
          · refine ⟨_, rfl, hK4 _ _ ?_⟩
            refine wpListIn_plain rfl fun K5 hK5 => operIn_value (v := .bool true) (w' := W6) (by kernel_rfl) (hK5 _ _ ?_)
            refine wpListIn_nil ?_
            clear hK1 hK2 hK3 hK4 hK5 hy hR hJ5 hP5 hJ4 hP4 C4 HC HN HSET HNew
            simp only [Exit.then, Act.put]
            go_simp
            rename_i hKd
            refine hKd _ _ ?_
            clear hKd
            go_wp2
            refine ⟨rfl, _, results_none rfl _ _ _, ⟨_, rfl⟩, .inr ⟨_, ⟨(nodesOf M ks).drop (k + 1), ?_⟩, hJx6⟩⟩
            rw [HPre2.out, List.take_append_drop]
        · obtain rfl : k = ks.length := by omega
          have hPre := HPre.out
          rw [List.take_of_length_le (by rw [HNL.out]; exact Nat.le_refl _)] at hPre
          have HPre2 := Lib.hid hPre
          clear hPre HPre HVS HRows H17
          go_wp2
          exact ⟨rfl, _, results_none rfl _ _ _, ⟨_, rfl⟩, .inl ⟨_, HPre2.out, hJk⟩⟩
end Go.Proofs.YthinpbdbhijbgaaGreatDoor
namespace Go.Proofs.YthinpbdbhijbgaaGreatDoor
open Go.RowKit Go.Sort
set_option maxHeartbeats 2000000
set_option maxRecDepth 100000

section
variable {F : Fence} {n : Nat} {P : Program} {ops : Array Oper} {Q : Exit → Act → World → Prop} {a : Act} {w : World} {rest : List Oper} {o : Oper}
theorem wpListIn_value {v : Value} {w' : World} (hF : ∀ f, F.fn f) (hgd : o.guard = none) (hnd : ∀ c, o.op ≠ .defer c) (h : (execOp a.eval o).run P w = .ok (.value v) w')
    (hK : wpListIn F n P ops Q rest (a.put o.dst v) w') : wpListIn F n P ops Q (o :: rest) a w :=
  wpListIn_plain hgd fun K hk => by
    refine ⟨fun _ _ => hF _, ?_⟩
    rw [Oper.semAt_eq _ _ _ hnd, h]
    exact hk _ _ hK
theorem wpListIn_skipped {w' : World} (hF : ∀ f, F.fn f) (hgd : o.guard = none) (hnd : ∀ c, o.op ≠ .defer c) (h : (execOp a.eval o).run P w = .ok .skip w')
    (hK : wpListIn F n P ops Q rest (a.put o.dst undef) w') : wpListIn F n P ops Q (o :: rest) a w :=
  wpListIn_plain hgd fun K hk => by
    refine ⟨fun _ _ => hF _, ?_⟩
    rw [Oper.semAt_eq _ _ _ hnd, h]
    exact hk _ _ hK
theorem ex_store_row (ty : TypeId) (x y : Operand) (ho : o.op = .store ty x y)
    (g : Nat) (cells : Array Value) (hx : a.eval x = .pointer (some ⟨g, 0, none⟩)) (hy : a.eval y = .agg cells)
    (t : TypeId) (old : Array Value) (hg : w.heap[g]? = some (.cells old t (0, 0))) (hi : (P.info? ty).map (·.size) = some cells.size)
    (hold : old.size = cells.size) (h1 : cells.all (·.oneCell') = true) : (execOp a.eval o).run P w = .ok .skip (w.setRow g cells) := by
  unfold execOp
  simp only [ho, hx, hy, Instr.storeAt, Instr.sureAddr, Sem.run_bind, Sem.run_pure, Result.andThen_ok, run_storeVar_row w g t ty old cells hg hi hold h1]
theorem wpListIn_load_row (hF : ∀ f, F.fn f) (hgd : o.guard = none) (ty : TypeId) (x : Operand) (ho : o.op = .load ty x) (g : Nat) (hx : a.eval x = .pointer (some ⟨g, 0, none⟩)) (t : TypeId) (cs : Array Value) (fr : Nat × Nat) (d : TypeDesc) (hg : w.heap[g]? = some (.cells cs t fr))
    (hu : P.underlying ty = some d) (hd : (match d with | .struct _ | .array _ _ => true | _ => false) = true) (hi : (P.info? ty).map (·.size) = some cs.size)
    (hK : wpListIn F n P ops Q rest (a.put o.dst (.agg cs)) w) : wpListIn F n P ops Q (o :: rest) a w :=
  wpListIn_value hF hgd (fun c h => by rw [ho] at h; cases h) (ex_load_row ho g hx t cs fr d hg hu hd hi) hK
theorem wpListIn_store_row (hF : ∀ f, F.fn f) (hgd : o.guard = none) (ty : TypeId) (x y : Operand) (ho : o.op = .store ty x y)
    (g : Nat) (cells : Array Value) (hx : a.eval x = .pointer (some ⟨g, 0, none⟩)) (hy : a.eval y = .agg cells)
    (t : TypeId) (old : Array Value) (hg : w.heap[g]? = some (.cells old t (0, 0))) (hi : (P.info? ty).map (·.size) = some cells.size)
    (hold : old.size = cells.size) (h1 : cells.all (·.oneCell') = true)
    (hK : wpListIn F n P ops Q rest (a.put o.dst undef) (w.setRow g cells)) : wpListIn F n P ops Q (o :: rest) a w :=
  wpListIn_skipped hF hgd (fun c h => by rw [ho] at h; cases h) (ex_store_row ty x y ho g cells hx hy t old hg hi hold h1) hK
theorem wpListIn_append_src (hF : ∀ f, F.fn f) (hgd : o.guard = none) (s x : Operand) (t tx : TypeId)
    (ho : o.op = .call { callee := .builtin .append, args := #[s, x], argTypes := #[t, tx] })
    (base : Nat) (e : TypeId) (i : TypeInfo) (z : Value) (size bytes : Nat) (ht : P.underlying t = some (.slice e)) (hi : P.info? e = some i) (hz : i.zero = some z)
    (hsize : i.size = size) (hby : i.bytes = bytes) (hzs : z.cells.size = size) (hsz : 0 < size)
    (v : Value) (m0 : Nat) (xs : List Value) (hv : a.eval s = v) (hown : w.ownsRow base e size v m0 xs)
    (xv : Value) (m : Nat) (news : List Value) (hx : a.eval x = xv) (hs : Src P size tx xv m news w)
    (h63 : m0 + m ≤ maxLen) (hbytes : (m0 + m) * bytes ≤ 140737488355328) (hbase : base ≤ w.heap.size)
    (h : ∀ v' w', w'.ownsRow base e size v' (m0 + m) (xs ++ news) → w.grownBy w' v.ownBlock → (v' = .slice none 0 0 ↔ v = .slice none 0 0 ∧ m = 0) → (v'.ownBlock = v.ownBlock ∨ v'.ownBlock = some w.heap.size) → wpListIn F n P ops Q rest (a.put o.dst v') w') : wpListIn F n P ops Q (o :: rest) a w := by
  obtain ⟨v', w', hr, h2, h3, h4, h5⟩ := run_append_own_src (P := P) w base t tx o.type e i z size bytes ht hi hz hsize hby hzs hsz v m0 xs hown xv m news hs h63 hbytes hbase
  exact wpListIn_value hF hgd (fun c h => by rw [ho] at h; cases h) (ex_append ho (by rw [hv, hx]; exact hr)) (h v' w' h2 h3 h4 h5)
end

/-- What All hands back: a function that tells the nodes. -/
def SeqOut (bt : Nat) (w : World) (e : Ending) (w' : World) : Prop :=
  ∃ bw btb, e = .returned (.func (.func 195) #[] #[.pointer (some ⟨bw, 0, none⟩), .pointer (some ⟨btb, 0, none⟩)]) ∧
    w'.cell? ⟨bw, 0, none⟩ = some (.func (.func 152) #[.pointer (some ⟨bt, 0, none⟩)] #[]) ∧ w'.cell? ⟨btb, 0, none⟩ = some (.pointer (some ⟨bt, 0, none⟩)) ∧ Ext w w'

theorem told_any (bt : Nat) (w : World) : Calls Tryz.prog 151 #[.pointer (some ⟨bt, 0, none⟩), .func (.func 152) #[.pointer (some ⟨bt, 0, none⟩)] #[]] w (SeqOut bt w) := by
  have h1 : ∀ t u, ((w.alloc (.cells #[Value.pointer (some ⟨bt, 0, none⟩)] t)).alloc (.cells #[Value.func (.func 152) #[.pointer (some ⟨bt, 0, none⟩)] #[]] u)).cell? ⟨w.heap.size, 0, none⟩ = some (.pointer (some ⟨bt, 0, none⟩)) := fun t u =>
    cell_of_row _ _ _ _ _ _ ((heap_alloc_old _ _ (by simp)).trans (heap_alloc_new w _))
  have h2 : ∀ t u, ((w.alloc (.cells #[Value.pointer (some ⟨bt, 0, none⟩)] t)).alloc (.cells #[Value.func (.func 152) #[.pointer (some ⟨bt, 0, none⟩)] #[]] u)).cell? ⟨w.heap.size + 1, 0, none⟩ = some (.func (.func 152) #[.pointer (some ⟨bt, 0, none⟩)] #[]) := fun t u =>
    cell_of_row _ _ _ _ _ _ (by have := heap_alloc_new (w.alloc (.cells #[Value.pointer (some ⟨bt, 0, none⟩)] t)) (.cells #[Value.func (.func 152) #[.pointer (some ⟨bt, 0, none⟩)] #[]] u); rwa [World.size_alloc] at this)
  have H1 := Lib.hid h1
  have H2 := Lib.hid h2
  clear h1 h2
  go_enter Tryz.func151, Tryz.ntmps151
  go_wp2
  go_ret
  exact ⟨_, _, rfl, H2.out _ _, H1.out _ _, (Ext.alloc w _).trans (Ext.alloc _ _)⟩

theorem tall_any (bt : Nat) (w : World) : Calls Tryz.prog 89 #[.pointer (some ⟨bt, 0, none⟩)] w (SeqOut bt w) := by
  have C1 := told_any bt w
  go_enter Tryz.func89, Tryz.ntmps89
  go_wp2_with fail
  refine C1.mono ?_
  rintro e w1 ⟨bw, btb, rfl, h1, h2, hE⟩
  have hfin : SeqOut bt w (.returned (.func (.func 195) #[] #[.pointer (some ⟨bw, 0, none⟩), .pointer (some ⟨btb, 0, none⟩)])) w1 := ⟨_, _, rfl, h1, h2, hE⟩
  have HFIN := Lib.hid hfin
  clear hfin h1 h2 hE C1
  go_wp2
  go_ret
  exact HFIN.out
end Go.Proofs.YthinpbdbhijbgaaGreatDoor
namespace Go.Proofs.YthinpbdbhijbgaaGreatDoor
open Go.RowKit Go.Sort
set_option maxHeartbeats 2000000
set_option maxRecDepth 100000
attribute [local go_sem] Oper.semAt_some

theorem infoSl : (Tryz.prog.info? 50).map (·.size) = some 1 := by kernel_rfl

theorem run_store_one {P : Program} {o : Oper} {a : Act} {w : World} (ty : TypeId) (x y : Operand) (ho : o.op = .store ty x y)
    (g : Nat) (v : Value) (hx : a.eval x = .pointer (some ⟨g, 0, none⟩)) (hy : a.eval y = v) (h1 : v.oneCell' = true)
    (t : TypeId) (old : Value) (hg : w.heap[g]? = some (.cells #[old] t (0, 0))) (hi : (P.info? ty).map (·.size) = some 1) : (execOp a.eval o).run P w = .ok .skip (w.setRow g #[v]) := by
  subst hy
  unfold execOp
  simp only [ho, hx, Instr.storeAt, Instr.sureAddr, Sem.run_bind, Sem.run_pure, Result.andThen_ok, run_storeVar_one w g t ty old _ hg hi h1]

/-- All but the box of the list and the list's own row. -/
def SafeO (bo : Nat) (W : World) (k : Nat) : Prop := k ≠ bo ∧ ∃ v, W.cell? ⟨bo, 0, none⟩ = some v ∧ v.ownBlock ≠ some k

/-- The rounds' invariant: what the list holds. -/
structure AllI (B bo bm : Nat) (w : World) (most : Nat) (pre : List (Value × Nd)) (vs : List (Array Value)) (v : Value) (W : World) : Prop where
  vals : pre.map (·.1) = vs.map Value.agg
  box : W.heap[bo]? = some (.cells #[v] 50 (0, 0))
  lim : W.heap[bm]? = some (.cells #[.int .i64 most] 3 (0, 0))
  row : W.ownsRow B 44 17 v pre.length (vs.flatMap Array.toList)
  nds : ∀ x ∈ pre, GS (SafeO bo) x W
  size : B ≤ W.heap.size
  keep : Below w.heap.size w W

theorem ownBlock_lt {w : World} {base e size n : Nat} {v : Value} {xs : List Value} (h : w.ownsRow base e size v n xs) (k : Nat) (hk : v.ownBlock = some k) : ∃ c, w.heap[k]? = some (.cells c e (0, 0)) := by
  rcases h.2 with ⟨rfl, _⟩ | ⟨g, cap, cur, rfl, _, hg, _⟩
  · simp [Value.ownBlock] at hk
  · simp [Value.ownBlock] at hk
    subst hk
    exact ⟨_, hg⟩

theorem row_at {w w' : World} {base e size n : Nat} {v : Value} {xs : List Value} (h : w.ownsRow base e size v n xs) (hk : ∀ g c, v.ownBlock = some g → w.heap[g]? = some (.cells c e (0, 0)) → w'.heap[g]? = some (.cells c e (0, 0))) : w'.ownsRow base e size v n xs := by
  refine ⟨h.1, ?_⟩
  rcases h.2 with h2 | ⟨g, cap, cur, rfl, h1, hg, h3⟩
  · exact .inl h2
  · exact .inr ⟨g, cap, cur, rfl, h1, hk g cur (by simp [Value.ownBlock]) hg, h3⟩

theorem Turn.cells {B : Nat} {X Y : World} (h : Turn B X Y) {k : Nat} {c : Array Value} {e : TypeId} {f : Nat × Nat} (hk : X.heap[k]? = some (.cells c e f)) : Y.heap[k]? = some (.cells c e f) := h.same k _ hk (.inr rfl)
theorem Turn.cell {B : Nat} {X Y : World} (h : Turn B X Y) {a : Addr} {u : Value} (hu : X.cell? a = some u) : Y.cell? a = some u := by
  obtain ⟨c, e, f, hk⟩ := cell_cells hu
  rw [World.cell?_of_block ((h.cells hk).trans hk.symm)]
  exact hu
theorem SafeO.turn {B bo : Nat} {X Y : World} (hT : Turn B X Y) (k : Nat) (h : SafeO bo X k) : SafeO bo Y k := by
  obtain ⟨h1, v, h2, h3⟩ := h
  exact ⟨h1, v, hT.cell h2, h3⟩
theorem gs_turn {B bo : Nat} {x : Value × Nd} {X Y : World} (h : GS (SafeO bo) x X) (hT : Turn B X Y) : GS (SafeO bo) x Y :=
  NdS.imp h (fun b hb => ⟨hb.1.turn hT, Nat.lt_of_lt_of_le hb.2 hT.size⟩) fun _ _ _ _ hu => hT.cell hu
theorem keepS_turn {B bo : Nat} {A X Y Z : World} (h : Turn B A X) (hk : KeepS (SafeO bo) X Y) (h2 : Turn B Y Z) : KeepS (SafeO bo) A Z :=
  ⟨Nat.le_trans h.size (Nat.le_trans hk.1 h2.size), fun k c e f hc hs => by
    obtain ⟨h3, h4⟩ := hk.2 k c e f (h.cells hc) (hs.turn h)
    exact ⟨h2.cells h3, h4.turn h2⟩⟩

theorem allI_turn {B bo bm : Nat} {w : World} {most : Nat} {pre : List (Value × Nd)} {vs : List (Array Value)} {v : Value} {X Y : World} (hI : AllI B bo bm w most pre vs v X) (hT : Turn B X Y) (hbo : bo < B) (hw : w.heap.size ≤ B) :
    AllI B bo bm w most pre vs v Y ∧ (∀ k, SafeO bo X k → SafeO bo Y k) ∧ ∀ k, X.heap.size ≤ k → SafeO bo Y k :=
  ⟨⟨hI.vals, hT.cells hI.box, hT.cells hI.lim, row_at hI.row fun _ _ _ hc => hT.cells hc, fun x hx => gs_turn (hI.nds x hx) hT, Nat.le_trans hI.size hT.size, hI.keep.trans (hT.below hw hI.keep.size)⟩,
    fun k h => h.turn hT, fun k hk => ⟨by have := hI.size; omega, v, hT.cell (cell_of_row _ _ _ _ _ _ hI.box), fun e => by
      obtain ⟨c, hc⟩ := ownBlock_lt hI.row k e
      have := (Array.getElem?_eq_some_iff.1 hc).1
      omega⟩⟩

theorem allI_step {B bo bm : Nat} {w : World} {most : Nat} {pre : List (Value × Nd)} {vs : List (Array Value)} {v : Value} {W w5 : World} {cs : Array Value} {n : Nd} {v' : Value} {T' : TypeId} (hI : AllI B bo bm w most pre vs v W) (hbo : bo < B) (hbm : bm < B) (hne : bm ≠ bo) (hwo : w.heap.size ≤ bo)
    (hx : GS (SafeO bo) (.agg cs, n) W) (hown : w5.ownsRow B 44 17 v' (pre.length + 1) (vs.flatMap Array.toList ++ cs.toList)) (hg : (W.alloc (.cells cs T')).grownBy w5 v.ownBlock) (ho : v'.ownBlock = v.ownBlock ∨ v'.ownBlock = some (W.heap.size + 1)) :
    AllI B bo bm w most (pre ++ [(.agg cs, n)]) (vs ++ [cs]) v' (w5.setRow bo #[v']) ∧ KeepsRec B W (w5.setRow bo #[v']) ∧ KeepS (SafeO bo) W (w5.setRow bo #[v']) ∧ w5.heap[bo]? = some (.cells #[v] 50 (0, 0)) := by
  have hz := hg.size
  have hsz := hI.size
  simp only [World.size_alloc] at hz
  have hblk : ∀ k o, W.heap[k]? = some o → v.ownBlock ≠ some k → w5.heap[k]? = some o := fun k o hk hn => by
    have hlt := (Array.getElem?_eq_some_iff.1 hk).1
    exact (hg.block k (by simp; omega) (fun e => hn e.symm)).trans ((heap_alloc_old W _ hlt).trans hk)
  have h6 : ∀ k o, k ≠ bo → W.heap[k]? = some o → v.ownBlock ≠ some k → (w5.setRow bo #[v']).heap[k]? = some o := fun k o hk ho hn => (setRow_other _ _ _ _ hk).trans (hblk k o ho hn)
  have hov : ∀ k, k < B → v.ownBlock ≠ some k := fun k hk e => by have := ownBlock_ge hI.row k e; omega
  have hbo5 := hblk bo _ hI.box (hov bo hbo)
  have hbo6 := setRow_heap w5 bo _ #[v'] _ _ hbo5
  have hc6 : (w5.setRow bo #[v']).cell? ⟨bo, 0, none⟩ = some v' := cell_of_row _ _ _ _ _ _ hbo6
  have hcv : W.cell? ⟨bo, 0, none⟩ = some v := cell_of_row _ _ _ _ _ _ hI.box
  have hsafe : ∀ k, k < W.heap.size → SafeO bo W k → SafeO bo (w5.setRow bo #[v']) k := fun k hk hs => ⟨hs.1, v', hc6, fun e => by
    obtain ⟨h1, u, h2, h3⟩ := hs
    rw [hcv] at h2
    cases h2
    rcases ho with h | h
    · exact h3 (h.symm.trans e)
    · rw [h] at e; cases e; omega⟩
  have hnb : ∀ k, SafeO bo W k → v.ownBlock ≠ some k := fun k hs => by
    obtain ⟨h1, u, h2, h3⟩ := hs
    rw [hcv] at h2
    cases h2
    exact h3
  have hgs : ∀ x, GS (SafeO bo) x W → GS (SafeO bo) x (w5.setRow bo #[v']) := fun x h => NdS.imp h (fun b hb => ⟨hsafe b hb.2 hb.1, by have := hb.2; simp; omega⟩) fun b o u hb hu => by
    obtain ⟨c, e, f, hk⟩ := cell_cells hu
    rw [World.cell?_of_block ((h6 b _ hb.1.1 hk (hnb b hb.1)).trans hk.symm)]
    exact hu
  refine ⟨⟨by simp [hI.vals], hbo6, h6 bm _ hne hI.lim (hov bm hbm), ?_, fun x hm => ?_, by simp; omega, ?_⟩, ⟨by simp; omega, fun k o hB hk hr => ?_⟩, ⟨by simp; omega, fun k c e f hk hs => ⟨h6 k _ hs.1 hk (hnb k hs), hsafe k (Array.getElem?_eq_some_iff.1 hk).1 hs⟩⟩, hbo5⟩
  · have := row_at hown (w' := w5.setRow bo #[v']) fun g c hg' hc => (setRow_other _ _ _ _ (fun e => by have := ownBlock_ge hown g hg'; omega)).trans hc
    simpa using this
  · rcases List.mem_append.1 hm with hm | hm
    · exact hgs x (hI.nds x hm)
    · simp at hm; subst hm; exact hgs _ hx
  · refine hI.keep.trans ⟨hg.os, hg.tape, hg.output, by simp; omega, fun k hk => ?_⟩
    have hlt := hI.keep.size
    have hlk : k < W.heap.size := by omega
    exact (h6 k _ (by omega) (Array.getElem?_eq_getElem hlk) (hov k (by omega))).trans (Array.getElem?_eq_getElem hlk).symm
  · refine h6 k o (by omega) hk fun e => ?_
    obtain ⟨c, hc⟩ := ownBlock_lt hI.row k e
    rw [hk] at hc
    cases hc
    cases hr

/-- What All hands back: rows that show the nodes. -/
def AllOut (ns : List Nd) (w : World) (e : Ending) (w' : World) : Prop :=
  ∃ (v : Value) (vs : List (Array Value)), e = .returned v ∧ vs.length = ns.length ∧ w'.ownsRow w.heap.size 44 17 v ns.length (vs.flatMap Array.toList) ∧ (∀ (j : Nat) (cs : Array Value), vs[j]? = some cs → ∃ n, ns[j]? = some n ∧ NdS (· < w'.heap.size) w' (.agg cs) n) ∧ Below w.heap.size w w'

theorem allOut_of {B bo bm : Nat} {w : World} {most : Nat} {pre : List (Value × Nd)} {vs : List (Array Value)} {v : Value} {W : World} (hI : AllI B bo bm w most pre vs v W) (hw : w.heap.size ≤ B) {ns : List Nd} (hn : pre.map (·.2) = ns) : AllOut ns w (.returned v) W := by
  subst hn
  have hl : vs.length = pre.length := by simpa using (congrArg List.length hI.vals).symm
  refine ⟨v, vs, rfl, by simp [hl], by simpa using ownsRow_base_a hI.row hw, fun j cs hj => ?_, hI.keep⟩
  have hjl := (List.getElem?_eq_some_iff.1 hj).1
  have hjp : j < pre.length := by omega
  refine ⟨pre[j].2, by simp [hjp], ?_⟩
  have h1 : pre[j].1 = .agg cs := by
    have := congrArg (·[j]?) hI.vals
    simpa [hjp, hj] using this
  have := hI.nds pre[j] (List.getElem_mem hjp)
  unfold GS at this
  rw [h1] at this
  exact this.imp (fun b hb => hb.2) fun _ _ _ _ h => h

theorem told_not_nil (c : Array Value) (W : World) : (binOp .eql 153 (.func (.func 195) #[] c) .nilFunc).run Tryz.prog W = .ok (.bool false) W := by kernel_rfl

def AllR (bo bm B : Nat) (w : World) (most : Nat) (pre : List (Value × Nd)) (W : World) : Prop := ∃ vs v, AllI B bo bm w most pre vs v W ∧ pre.length ≤ most
def AllX (bo bm B : Nat) (w : World) (most : Nat) (c : Code) (pre : List (Value × Nd)) (W : World) : Prop := c = .exit 0 ∧ ∃ vs v, AllI B bo bm w most pre vs v W ∧ pre.length = most + 1
def AllA (fr : Value → Value → Act) (x : Value × Nd) (a' : Act) (W : World) : Prop := ∃ (bl : Nat) (cs : Array Value), x.1 = .agg cs ∧ W.heap[bl]? = some (.cells cs 44 (0, 0)) ∧ a' = fr (.pointer (some ⟨bl, 0, none⟩)) (.agg cs)

set_option maxHeartbeats 4000000 in
theorem lall_any (S : Nat → Prop) (w : World) (bt : Nat) (M : List (Key × Nd)) (N : Nat) (hT : TreeAt S w bt M N) (most : Nat) (hmost : most < maxLen) (hks : M.length * 168 ≤ 140737488355328) (hkl : ∀ k ∈ M.map (·.1), k.length ≤ maxLen) :
    Calls Tryz.prog 22 #[.pointer (some ⟨bt, 0, none⟩), .int .i64 most] w (AllOut ((nodesOf M (M.map (·.1))).take (most + 1)) w) := by
  have HT := Lib.hid hT
  clear hT
  refine (callsIn_wide (n := 6)).1 (callsIn_of_wp_marks Tryz.func22 rfl trivial ?_)
  simp only [Tryz.ntmps22, List.size_toArray, List.length_cons, List.length_nil, Nat.reduceAdd, Nat.reduceSub, Array.replicate_succ, Array.replicate_zero, List.push_toArray, List.append_toArray, List.nil_append, List.cons_append]
  gi_wp2_with fail
  refine ⟨trivial, (callsIn_wide.2 (tall_any bt _)).mono ?_⟩
  rintro e W1 ⟨bw, btb, rfl, hcw, hct, hE1⟩
  have hbx : ((w.alloc (.cells #[.int .i64 most] 3)).alloc (.cells #[.slice none 0 0] 50)).heap[w.heap.size + 1]? = some (.cells #[.slice none 0 0] 50 (0, 0)) := by
    have := heap_alloc_new (w.alloc (.cells #[.int .i64 most] 3)) (.cells #[.slice none 0 0] 50)
    rwa [World.size_alloc] at this
  have hbm : ((w.alloc (.cells #[.int .i64 most] 3)).alloc (.cells #[.slice none 0 0] 50)).heap[w.heap.size]? = some (.cells #[.int .i64 most] 3 (0, 0)) :=
    (heap_alloc_old _ _ (by simp)).trans (heap_alloc_new w _)
  have hbx1 := (hE1.block _ (Array.getElem?_eq_some_iff.1 hbx).1).trans hbx
  have hbm1 := (hE1.block _ (Array.getElem?_eq_some_iff.1 hbm).1).trans hbm
  have hEw : Ext w W1 := ((Ext.alloc w _).trans (Ext.alloc _ _)).trans hE1
  have hz1 := hE1.size
  simp only [World.size_alloc] at hz1
  have hT1 := HT.out.ext hEw
  have hbd := HT.out.bound
  have hI0 : AllI W1.heap.size (w.heap.size + 1) w.heap.size w most [] [] (.slice none 0 0) W1 :=
    ⟨rfl, hbx1, hbm1, World.ownsRow_nil _ _ _ _, by simp, Nat.le_refl _, hEw⟩
  have hs1 : ∀ k, S k → SafeO (w.heap.size + 1) W1 k := fun k hk => ⟨by have := hbd k hk; omega, _, cell_of_row _ _ _ _ _ _ hbx1, by simp [Value.ownBlock]⟩
  have hOk := hT1.ok
  have TT := told_tells (SafeO (w.heap.size + 1)) S W1 bt M N hT1 hs1 bw btb 152 #[.pointer (some ⟨bt, 0, none⟩)] #[] hcw hct (enters_of Tryz.func152 (by kernel_rfl) rfl) (M.map (·.1))
    (fun W hW => by simpa using tsorted_any S W bt M N (hT1.ext hW) (by omega)) (by simpa using hks) hkl
  have TT := Lib.hid TT
  have hnn := told_not_nil #[.pointer (some ⟨bw, 0, none⟩), .pointer (some ⟨btb, 0, none⟩)] W1
  have HI0 := Lib.hid hI0
  clear hbx hbm hbx1 hbm1 hE1 hT1 hbd hs1 hI0 hcw hct HT hEw
  gi_wp2
  refine wpIn_tells rfl (by omega) (gf := 195) (lb := #[.pointer (some ⟨bw, 0, none⟩), .pointer (some ⟨btb, 0, none⟩)]) rfl trivial (enters_of Tryz.func195 (by kernel_rfl) rfl) TT.out (fun _ => rfl)
    (AllR (w.heap.size + 1) w.heap.size W1.heap.size w most) (AllX (w.heap.size + 1) w.heap.size W1.heap.size w most)
    (AllA fun p c => { tmps := #[.pointer (some ⟨bt, 0, none⟩), .int .i64 most, undef, .pointer (some ⟨w.heap.size, 0, none⟩), .slice none 0 0, .pointer (some ⟨w.heap.size + 1, 0, none⟩), .func (.func 195) #[] #[.pointer (some ⟨bw, 0, none⟩), .pointer (some ⟨btb, 0, none⟩)], p, .pointer (some ⟨bt, 0, none⟩), .func (.func 195) #[] #[.pointer (some ⟨bw, 0, none⟩), .pointer (some ⟨btb, 0, none⟩)], .func (.func 195) #[] #[.pointer (some ⟨bw, 0, none⟩), .pointer (some ⟨btb, 0, none⟩)], .bool false, .func (.func 195) #[] #[.pointer (some ⟨bw, 0, none⟩), .pointer (some ⟨btb, 0, none⟩)], c, undef, undef, undef, undef, undef, undef, undef, undef, undef], defers := [] })
    (fun A X Y B h1 h2 h3 => keepS_turn h1 h2 h3) ?hI ?hIx (fun x X Y h1 h2 => gs_turn h1 h2) ?hAx ⟨[], _, HI0.out, Nat.zero_le _⟩ ?assign ?body ?done ?stop
  case hI =>
    rintro pre X Y ⟨vs, v, h, hl⟩ hT
    obtain ⟨h1, h2, h3⟩ := allI_turn h hT (by omega) (by omega)
    exact ⟨⟨vs, v, h1, hl⟩, h2, h3⟩
  case hIx =>
    rintro c pre X Y ⟨hc, vs, v, h, hl⟩ hT
    exact ⟨hc, vs, v, (allI_turn h hT (by omega) (by omega)).1, hl⟩
  case hAx =>
    rintro x a' X Y ⟨bl, cs, h1, h2, h3⟩ hT
    exact ⟨bl, cs, h1, hT.cells h2, h3⟩
  case assign =>
    rintro l pre ⟨xv, n⟩ W K ⟨vs, v, hI, hl⟩ hG hK
    obtain ⟨da, dc, aa, ac, e, _⟩ := hG
    dsimp only at e
    subst e
    obtain ⟨W2, hW2⟩ : ∃ W2, W2 = W.alloc (.cells (ndC n (.slice da n.data.length dc) (.slice aa n.acl.length ac)) 44) := ⟨_, rfl⟩
    have hax := hK _ W2 (by rw [hW2]; exact Ext.alloc _ _) ⟨W.heap.size, _, rfl, by rw [hW2]; exact heap_alloc_new W _, rfl⟩
    have HSET := Lib.hid ((setRow_alloc W zeroNd (ndC n (.slice da n.data.length dc) (.slice aa n.acl.length ac)) 44).trans hW2.symm)
    have HNew := Lib.hid (heap_alloc_new W (.cells zeroNd 44))
    have HAX := Lib.hid hax
    unfold ndC at HSET HAX ⊢
    unfold zeroNd at HSET HNew
    clear hK hI hW2 hax TT HI0
    gi_wp2_with (refine wpListIn_store_row (fun _ => trivial) rfl 44 (.tmp 7) (.tmp 13) rfl W.heap.size _ rfl rfl 44 _ HNew.out sizeNd rfl (cells_node n da aa _ _ dc ac) ?_; rw [HSET.out])
    exact HAX.out
  case body =>
    rintro l pre ⟨xv, n⟩ a' W hl0 _ ⟨rest, hSp⟩ ⟨vs, v, hI, hl⟩ hG ⟨bl, cs, e, hbl, rfl⟩
    dsimp only at e
    subst e
    have hG2 := hG
    obtain ⟨da, dc, aa, ac, e, _⟩ := hG
    simp only [Value.agg.injEq] at e
    subst e
    have hpl : pre.length + 1 ≤ M.length := by
      have := congrArg List.length hSp
      simp [nodesOf] at this
      omega
    have hv : W.cell? ⟨w.heap.size + 1, 0, none⟩ = some v := cell_of_row _ _ _ _ _ _ hI.box
    have hs17 : Cells (W.alloc (.cells (ndC n (.slice da n.data.length dc) (.slice aa n.acl.length ac)) 44)).heap.size (W.alloc (.cells (ndC n (.slice da n.data.length dc) (.slice aa n.acl.length ac)) 44)) (some ⟨W.heap.size, 0, none⟩) (ndC n (.slice da n.data.length dc) (.slice aa n.acl.length ac)).toList := fun j u hj => by
      refine ⟨_, 0, rfl, by simp, ?_⟩
      rw [Nat.zero_add, cell_of_row _ _ _ _ _ _ (heap_alloc_new W _)]
      simpa using hj
    have hsrc : Src Tryz.prog 17 50 (.slice (some ⟨W.heap.size, 0, none⟩) 1 1) 1 (ndC n (.slice da n.data.length dc) (.slice aa n.acl.length ac)).toList (W.alloc (.cells (ndC n (.slice da n.data.length dc) (.slice aa n.acl.length ac)) 44)) :=
      hs17.src Tryz.underlying50 1 1 (by simp [ndC]) (fun u hu => by
        have := cells_node n da aa n.data.length n.acl.length dc ac
        rw [← Array.all_toList] at this
        exact List.all_eq_true.1 this u hu)
    obtain ⟨i0, hi, hz0, hz1', hz2⟩ := info_parts infoNd
    have hownA := hI.row.alloc (.cells (ndC n (.slice da n.data.length dc) (.slice aa n.acl.length ac)) 44)
    have hszB := hI.size
    have HI := Lib.hid hI
    have HG := Lib.hid hG2
    have HBL := Lib.hid hbl
    unfold ndC at hsrc hownA HBL
    clear hs17 TT HI0 hI hG2 hbl
    gi_wp2_with (first | (refine wpListIn_load_row (fun _ => trivial) rfl 44 (.tmp 7) rfl bl rfl 44 _ (0, 0) _ HBL.out Tryz.underlying44 rfl sizeNd ?_) | (gi_at_builtin; refine wpListIn_append_src (fun _ => trivial) rfl (.tmp 14) (.tmp 16) 50 50 rfl W1.heap.size 44 i0 (.agg zeroNd) 17 168 Tryz.underlying50 hi hz0 hz1' hz2 rfl (by decide) _ pre.length _ rfl hownA _ 1 _ rfl hsrc ?c1 ?c2 ?c3 ?_))
    case c1 => unfold maxLen at *; omega
    case c2 => omega
    case c3 => first | omega | (simp; omega)
    intro v' w5 hown5 hg5 _ ho5
    rw [show [Value.string n.path, .slice da n.data.length dc, .slice aa n.acl.length ac, .int .i64 n.owner, .int .i64 n.czxid, .int .i64 n.mzxid, .int .i64 n.pzxid, .int .i64 n.azxid, .int .i64 n.qzxid, .int .i64 n.ctime, .int .i64 n.mtime, .int .i32 n.version, .int .i32 n.creates, .int .i32 n.aversion, .bool n.has, .int .i64 n.count, .int .i64 n.bytes] = (ndC n (.slice da n.data.length dc) (.slice aa n.acl.length ac)).toList from rfl] at hown5
    obtain ⟨hI6, hR6, hK6, hbo5⟩ := allI_step HI.out (by omega) (by omega) (by omega) (by omega) HG.out hown5 hg5 ho5
    obtain ⟨la, lc, rfl, _⟩ := ownsRow_from hown5
    have hv6 : (w5.setRow (w.heap.size + 1) #[.slice la (pre.length + 1) lc]).cell? ⟨w.heap.size + 1, 0, none⟩ = some (.slice la (pre.length + 1) lc) := cell_of_row _ _ _ _ _ _ hI6.box
    have hm6 : (w5.setRow (w.heap.size + 1) #[.slice la (pre.length + 1) lc]).cell? ⟨w.heap.size, 0, none⟩ = some (.int .i64 most) := cell_of_row _ _ _ _ _ _ hI6.lim
    obtain ⟨W6, hW6⟩ : ∃ W6, W6 = w5.setRow (w.heap.size + 1) #[.slice la (pre.length + 1) lc] := ⟨_, rfl⟩
    rw [← hW6] at hv6 hm6 hI6 hR6 hK6
    have HW6 := Lib.hid hW6
    have HB5 := Lib.hid hbo5
    have HI6 := Lib.hid hI6
    have HR6 := Lib.hid hR6
    have HK6 := Lib.hid hK6
    clear hW6 hbo5 hI6 hR6 hK6 hown5 hg5 ho5 hsrc hownA hv
    refine wpListIn_skipped (fun _ => trivial) rfl (fun c h => by cases h) (run_store_one 50 (.tmp 5) (.tmp 17) rfl (w.heap.size + 1) (.slice la (pre.length + 1) lc) rfl rfl rfl 50 v HB5.out infoSl) ?_
    rw [← HW6.out]
    gi_wp2
    · exact ⟨HR6.out, rfl, _, _, HI6.out, by simp; omega⟩
    · exact ⟨HR6.out, HK6.out, _, _, HI6.out, by simp; omega⟩
  case done =>
    rintro D xs W hD hS ⟨vs, v, hI, hl⟩ hK
    have hv : W.cell? ⟨w.heap.size + 1, 0, none⟩ = some v := cell_of_row _ _ _ _ _ _ hI.box
    have hfin := allOut_of (allI_turn hI (Turn.putObj (.deferred none) hD hK rfl) (by omega) (by omega)).1 (by omega) hS
    rw [← List.take_of_length_le (l := nodesOf M (M.map (·.1))) (i := most + 1) (by rw [← hS]; simp; omega)] at hfin
    have HFIN := Lib.hid hfin
    have HK := Lib.hid hK
    clear hfin hK hI hS TT HI0
    gi_wp2
    refine ⟨by simp, .inl ⟨_, _, rfl, run_takeDeferred HK.out, ?_⟩⟩
    refine ⟨_, results_tmp rfl _ _ _, ?_⟩
    exact HFIN.out
  case stop =>
    rintro D c pre W hD ⟨rest, hS⟩ ⟨rfl, vs, v, hI, hl⟩ hK
    have hv : W.cell? ⟨w.heap.size + 1, 0, none⟩ = some v := cell_of_row _ _ _ _ _ _ hI.box
    have hfin := allOut_of (allI_turn hI (Turn.putObj (.deferred none) hD hK rfl) (by omega) (by omega)).1 (by omega) (ns := (nodesOf M (M.map (·.1))).take (most + 1)) (by rw [← hS, List.take_append_of_le_length (by simp [hl]), List.take_of_length_le (by simp [hl])])
    have HFIN := Lib.hid hfin
    have HK := Lib.hid hK
    clear hfin hK hI hS TT HI0
    gi_wp2
    refine ⟨by simp, .inl ⟨_, _, rfl, run_takeDeferred HK.out, ?_⟩⟩
    refine ⟨_, results_tmp rfl _ _ _, ?_⟩
    exact HFIN.out
end Go.Proofs.YthinpbdbhijbgaaGreatDoor
namespace Go.Proofs.YthinpbdbhijbgaaGreatDoor
open Go.RowKit
set_option maxHeartbeats 2000000
set_option maxRecDepth 100000

theorem tcount_any (S : Nat → Prop) (w : World) (bt : Nat) (M : List (Key × Nd)) (N : Nat) (hT : TreeAt S w bt M N) : Calls Tryz.prog 23 #[.pointer (some ⟨bt, 0, none⟩)] w fun e w' => e = .returned (.int .i64 M.length) ∧ w = w' := by
  obtain ⟨bn, bk, K, hd, hNd, hKd⟩ := hT
  obtain ⟨m, hm, hr⟩ := hNd.ex
  have hx := TreeAt.box hd
  have hlen := fun ty => hm.len (e := 44) Tryz.underlying120 ty
  have HL := Lib.hid hr.length
  unfold Box treeC at hx
  clear hm hr hd hNd hKd
  go_enter Tryz.func23, Tryz.ntmps23
  go_wp2
  go_ret
  exact ⟨by rw [HL.out]; rfl, rfl⟩
end Go.Proofs.YthinpbdbhijbgaaGreatDoor
namespace Go.Proofs.YthinpbdbhijbgaaGreatDoor
open Go.RowKit Go.Sort
set_option maxHeartbeats 2000000
set_option maxRecDepth 100000

/-- A node of a path alone. -/
def pN (p : ByteArray) : Nd := ⟨p, [], [], 0, 0, 0, 0, 0, 0, 0, 0, 0, 0, 0, false, 0, 0⟩
def aP : ByteArray := ⟨#[47, 97]⟩
def abP : ByteArray := ⟨#[47, 97, 47, 98]⟩
def aM0 : List (Key × Nd) := [(keyN rootN, rootN)]
def aM1 : List (Key × Nd) := addM aM0 (pN aP)
def aM2 : List (Key × Nd) := addM aM1 (pN abP)
theorem am_1 : addE aM0 (pN abP) = 73 := by decide +kernel
theorem am_2 : addE aM0 (pN aP) = 0 := by decide +kernel
theorem am_3 : addE aM1 (pN abP) = 0 := by decide +kernel
theorem am_4 : addM aM0 (pN abP) = aM0 := by unfold addM; rw [if_neg (by rw [am_1]; decide)]
theorem am_5 : aM2.length = 3 := by decide +kernel
theorem am_6 : remE aM2 aP = 72 := by decide +kernel
theorem am_7 : (kidsOf aM2 ⟨#[47]⟩).map (·.1) = [[97]] := by decide +kernel
theorem am_8 : (mget aM2 [47]).isSome = true := by decide +kernel
theorem am_9 : (mget aM2 abP.data.toList).isSome = true := by decide +kernel
theorem am_10 : ∀ k ∈ aM2.map (·.1), k.length ≤ 9 := by decide +kernel
theorem am_12 : ((nodesOf aM2 (aM2.map (·.1))).take (9 + 1)).length = 3 := by decide +kernel
theorem am_11 : remM aM2 aP = aM2 := by unfold remM; rw [if_neg (by rw [am_6]; decide)]

/-- A tree of the walk's own blocks. -/
def Own (B : Nat) (w : World) (bt : Nat) (M : List (Key × Nd)) (N : Nat) : Prop := TreeAt (fun k => B ≤ k ∧ k < w.heap.size) w bt M N
theorem own_to {B : Nat} {w w' : World} {bt : Nat} {M : List (Key × Nd)} {N : Nat} {v : Value} {e : Ending} (hB : B ≤ w.heap.size) (h : TreeTo (fun k => B ≤ k ∧ k < w.heap.size) w bt M N v e w') : e = .returned v ∧ Own B w' bt M N ∧ Below B w w' := by
  obtain ⟨h1, h2, h3⟩ := h
  have hs := h3.size
  exact ⟨h1, h2.keep (fun _ _ => rfl) (fun k hk => hk.elim (fun h => ⟨h.1, by omega⟩) (fun h => ⟨by omega, h.2⟩)) (fun k hk => hk.2) (Nat.le_refl _), h3.below (fun k hk => hk.1) hB⟩
theorem Own.ext {B : Nat} {w w' : World} {bt : Nat} {M : List (Key × Nd)} {N : Nat} (h : Own B w bt M N) (he : Ext w w') : Own B w' bt M N :=
  (TreeAt.ext h he).keep (fun _ _ => rfl) (fun _ hk => ⟨hk.1, Nat.lt_of_lt_of_le hk.2 he.size⟩) (fun _ hk => hk.2) (Nat.le_refl _)

theorem pN_fit (p : ByteArray) (hp : p.size ≤ 4) : Fit (pN p) := ⟨by simp [pN]; omega, by simp [pN], by simp [pN], fun x hx => by simp [pN] at hx⟩

theorem kids_one : ((kidsOf aM2 ⟨#[47]⟩).map fun x => encStr x.1) = [.string ⟨#[97]⟩] ∧ (kidsOf aM2 ⟨#[47]⟩).length = 1 := by
  have h := am_7
  constructor
  · have : ((kidsOf aM2 ⟨#[47]⟩).map fun x => encStr x.1) = ((kidsOf aM2 ⟨#[47]⟩).map (·.1)).map encStr := by simp
    rw [this, h]; rfl
  · have := congrArg List.length h
    simpa using this

theorem addp_any {B : Nat} {w : World} {bt : Nat} {M : List (Key × Nd)} {N : Nat} (h : Own B w bt M N) (hB : B ≤ w.heap.size) (hu : Tabs w) (p : ByteArray) (hp : p.size ≤ 4) (hN : N < 100) (r : Int) (M' : List (Key × Nd)) (hr : addE M (pN p) = r) (hM : addM M (pN p) = M') :
    Calls Tryz.prog 70 #[.pointer (some ⟨bt, 0, none⟩), .agg (ndC (pN p) (.slice none 0 0) (.slice none 0 0))] w fun e w' => e = .returned (.int .i64 r) ∧ Own B w' bt M' (N + 1) ∧ Below B w w' := by
  subst hr hM
  exact (add_any _ w bt M N h (pN p) none none 0 0 hu (pN_fit p hp) (by omega) (fun j u h => by simp [pN] at h) (fun j u h => by simp [pN, acCs] at h)).mono fun e w' hq => own_to hB hq

theorem alive_any (w : World) (hT0 : Tabs w) : Calls Tryz.prog 16 #[] w fun e w' => e = .returned (.bool true) ∧ Ext w w' := by
  have hsz := hT0.size
  have HT0 := Lib.hid hT0
  clear hT0
  go_enter Tryz.func16, Tryz.ntmps16
  go_wp2_with fail
  refine (new_any w).mono ?_
  rintro e w1 ⟨bt, rfl, hT1, hE1⟩
  have C2 := addp_any hT1 hE1.size (HT0.out.below hE1 hsz) abP (by decide) (by omega) _ _ am_1 am_4
  have hz1 := hE1.size
  have hB1 : Below w.heap.size w w1 := hE1
  have HE1 := Lib.hid hB1
  clear hT1 hE1 hB1
  go_wp2_with fail
  refine C2.mono ?_
  rintro e w2 ⟨rfl, hT2, hM2⟩
  have hE2 := HE1.out.trans hM2
  have C3 := addp_any hT2 hE2.size (HT0.out.below hE2 hsz) aP (by decide) (by omega) _ aM1 am_2 rfl
  have hz2 := hE2.size
  have HE2 := Lib.hid hE2
  clear hT2 hE2 hM2 C2
  go_wp2_with fail
  refine C3.mono ?_
  rintro e w3 ⟨rfl, hT3, hM3⟩
  have hE3 := HE2.out.trans hM3
  have C4 := addp_any hT3 hE3.size (HT0.out.below hE3 hsz) abP (by decide) (by omega) _ aM2 am_3 rfl
  have hz3 := hE3.size
  have HE3 := Lib.hid hE3
  clear hT3 hE3 hM3 C3
  go_wp2_with fail
  refine C4.mono ?_
  rintro e w4 ⟨rfl, hT4, hM4⟩
  have hE4 := HE3.out.trans hM4
  have C5 := children_any _ w4 bt aM2 _ hT4 ⟨#[47]⟩ (by decide) (by rw [am_5]; omega)
  have HT4 := Lib.hid hT4
  have hz4 := hE4.size
  have HE4 := Lib.hid hE4
  clear hT4 hE4 hM4 C4
  go_wp2_with fail
  refine C5.mono ?_
  rintro e w5 ⟨v, rfl, hEx, hrow⟩
  have h8 : (mget aM2 (⟨#[47]⟩ : ByteArray).data.toList).isSome = true := am_8
  rw [h8] at hrow ⊢
  rw [if_pos rfl] at hrow ⊢
  rw [kids_one.1, kids_one.2] at hrow
  obtain ⟨ra, rc, rfl, hrows⟩ := ownsRow_from hrow
  obtain ⟨rb, ro, rfl, _, hrb, hr0⟩ := hrows 0 _ rfl
  have hE5 := HE4.out.trans (hEx.mono hz4)
  have C6 := tget_any _ w5 bt aM2 _ (HT4.out.ext hEx) abP (by decide)
  have HT5 := Lib.hid (HT4.out.ext hEx)
  have hz5 := hE5.size
  have HE5 := Lib.hid hE5
  have HR0 := Lib.hid hr0
  clear hE5 hEx hrow hrows C5 hr0
  go_wp2_with fail
  refine C6.mono ?_
  rintro e w6 ⟨v, rfl, hv, hE6⟩
  obtain ⟨da, dc, aa, ac, rfl, _⟩ := hv
  rw [am_9]
  generalize (mget aM2 abP.data.toList).getD zeroN = n at *
  obtain ⟨W7, hW7⟩ : ∃ W7, W7 = w6.alloc (.cells (ndC n (.slice da n.data.length dc) (.slice aa n.acl.length ac)) 44) := ⟨_, rfl⟩
  have HSET := Lib.hid ((setRow_alloc w6 zeroNd (ndC n (.slice da n.data.length dc) (.slice aa n.acl.length ac)) 44).trans hW7.symm)
  have HNew := Lib.hid (heap_alloc_new w6 (.cells zeroNd 44))
  have hx7 : Ext w5 W7 := hE6.trans (by rw [hW7]; exact Ext.alloc _ _)
  have hE7 := HE5.out.trans (hx7.mono hz5)
  have hr7 : W7.cell? ⟨rb, ro + 0, none⟩ = some (.string ⟨#[97]⟩) := (hx7.cell (p := ⟨rb, ro + 0, none⟩) hrb).trans HR0.out
  rw [Nat.add_zero] at hr7
  have hT7 := HT5.out.ext hx7
  have C8 := tcount_any _ W7 bt aM2 _ hT7
  rw [am_5, show ((3 : Nat) : Int) = 3 from rfl] at C8
  have C9 := rem_any _ W7 bt aM2 _ hT7 aP (by decide) (by omega)
  rw [am_6, am_11] at C9
  have hz7 := hE7.size
  have HE7 := Lib.hid hE7
  have HT7 := Lib.hid hT7
  unfold ndC at HSET ⊢
  unfold zeroNd at HSET HNew
  clear hE6 hW7 hx7 hE7 hT7 C6 HR0
  go_wp2_with (refine wpList_store_row rfl 44 (.tmp 4) (.tmp 35) rfl w6.heap.size _ rfl rfl 44 _ HNew.out sizeNd rfl (cells_node n da aa _ _ dc ac) ?_; rw [HSET.out])
  refine C8.mono ?_
  rintro e w8 ⟨rfl, hw8⟩
  subst hw8
  clear C8 HNew HSET
  go_wp2_with fail
  refine C9.mono ?_
  intro e w9 hq
  obtain ⟨rfl, hT9, hM9⟩ := own_to hz7 hq
  have hE9 := HE7.out.trans hM9
  have C10 := lall_any _ w9 bt aM2 _ hT9 9 (by unfold maxLen; omega) (by rw [am_5]; omega) (fun k hk => by have := am_10 k hk; unfold maxLen; omega)
  have hz9 := hE9.size
  have HE9 := Lib.hid hE9
  clear hq hT9 hM9 hE9 C9
  go_wp2_with fail
  refine C10.mono ?_
  rintro e w10 ⟨v, vs, rfl, hvl, hrow, _, hE10⟩
  rw [am_12] at hrow
  obtain ⟨ra, rc, rfl, _⟩ := ownsRow_from hrow
  have hE10 := HE9.out.trans (hE10.mono hz9)
  have HE10 := Lib.hid hE10
  clear hrow hE10 C10 hvl
  go_wp2
  go_ret
  exact ⟨rfl, HE10.out⟩
end Go.Proofs.YthinpbdbhijbgaaGreatDoor
namespace Go.Proofs.YthinpbdbhijbgaaGreatDoor
open Go.RowKit Go.Sort
set_option maxHeartbeats 2000000
set_option maxRecDepth 100000

section
variable {P : Program} {ops : Array Oper} {Q : Exit → Act → World → Prop} {Φ : Nat → Value → World → Prop} {a0 : Act} {w0 : World}
theorem duties_rel : ∀ (l : List Oper) (k : Nat), Duties P ops Q Φ a0 w0 k l → DutiesR Ext P ops Q Φ a0 w0 k l
  | [], _, _ => trivial
  | _ :: l, k, h => ⟨h.1, duties_rel l (k + 1) h.2⟩
theorem Ahead.val {vals : List Value} {o p : Oper} {a : Act} {w : World} (h : Ahead ops (fun i v _ => vals[i]? = some v) o a w) (j : Nat) (d : Tmp) (hp : ops[j]? = some p) (hd : p.dst = some d) (he : ∃ e ∈ o.after.toList, e.on = j ∧ Region.binds .any e = true) {v : Value} (hv : vals[j]? = some v) : a.eval (.tmp d) = v :=
  Option.some.inj ((h.slot j d hp hd he).symm.trans hv)
/-- A region that draws its order, each of whose operations has one value to give. -/
theorem region_vals (m : Nat) (vals : List Value) (hlen : vals.length = ops.toList.length) (hchk : (dstsOk ops && aheadB ops && (ops.toList.all fun o => o.dst.any fun d => decide (d < m))) = true) (hsz : a0.tmps.size = m)
    (hd : Duties P ops Q (fun i v _ => vals[i]? = some v) a0 w0 0 ops.toList)
    (hend : ∀ w, Ext w0 w → Q .normal (filled ops.toList vals a0) w) : RegionP P ops Q a0 w0 := by
  have hall := hchk
  simp only [Bool.and_eq_true] at hall
  refine region_rel_e m Ext Ext.refl (fun _ _ _ => Ext.trans) Ext.drew (fun i v _ => vals[i]? = some v) (fun _ _ _ _ h _ => h) (fun i v w h ho => ?_) ?_ hsz (duties_rel _ _ hd) fun us w hE hl hP => ?_
  · exfalso
    cases hoi : ops[i]? with
    | none => rw [hoi] at ho; cases ho
    | some o =>
      rw [hoi] at ho
      have := List.all_eq_true.1 hall.2 o (List.mem_of_getElem? (i := i) (by simpa using hoi))
      cases hd : o.dst with
      | none => rw [hd] at this; cases this
      | some d => simp [hd] at ho
  · simp only [Bool.and_eq_true]
    refine ⟨hall.1, List.all_eq_true.2 fun o ho => ?_⟩
    have := List.all_eq_true.1 hall.2 o ho
    cases hd : o.dst with
    | none => rfl
    | some d => rw [hd] at this; simpa using this
  · have : us = vals := List.ext_getElem? fun i => by
      by_cases hi : i < us.length
      · rw [hP i us[i] (List.getElem?_eq_getElem hi), List.getElem?_eq_getElem hi]
      · rw [List.getElem?_eq_none (by omega), List.getElem?_eq_none (by omega)]
    rw [this]
    exact hend w hE
end
end Go.Proofs.YthinpbdbhijbgaaGreatDoor
namespace Go.Proofs.YthinpbdbhijbgaaGreatDoor
open Go.RowKit
set_option maxHeartbeats 400000

theorem fields_of {t : TypeId} {fs : Array Field} (h : Tryz.prog.underlying t = some (.struct fs)) : Tryz.prog.fieldsOf t = fs := by
  unfold Program.fieldsOf; rw [h]
theorem eq_agg (w : World) (d : Nat) (t : TypeId) (fs : Array Field) (xs ys : Array Value) (h : Tryz.prog.underlying t = some (.struct fs)) (hp : Tryz.prog.stoodInHeld t = false) :
    (Op.equalIn (d + 1) t (.agg xs) (.agg ys)).run Tryz.prog w = (Op.eqFields d xs ys fs.toList).run Tryz.prog w := by
  rw [run_equalIn_agg w d t xs ys (by rw [fields_of h]; exact h) hp, fields_of h]

def eqAc (x y : Ac) : Bool := x.perms == y.perms && (x.scheme.toList == y.scheme.toList && x.id.toList == y.id.toList)
def acV (x : Ac) : Value := .agg #[.int .i32 x.perms, .string x.scheme, .string x.id]
theorem eq_ac (w : World) (d : Nat) (x y : Ac) : (Op.equalIn (d + 3) 129 (acV x) (acV y)).run Tryz.prog w = .ok (eqAc x y) w := by
  unfold acV
  rw [eq_agg w (d + 2) _ _ _ _ Tryz.underlying129 (by kernel_rfl)]
  simp [Op.eqFields, part, go_sem]
  unfold eqAc
  repeat' split
  all_goals simp_all

theorem guard_ac : Tryz.prog.eqGuardType Tryz.prog.depth 129 = false := by kernel_rfl
theorem guard_q : Tryz.prog.eqGuardType Tryz.prog.depth 23 = false := by kernel_rfl
theorem neq_ac (w : World) (x y : Ac) : (binOp .neq 129 (.agg #[.int .i32 x.perms, .string x.scheme, .string x.id]) (.agg #[.int .i32 y.perms, .string y.scheme, .string y.id])).run Tryz.prog w = .ok (.bool (!eqAc x y)) w := by
  rw [run_neq_struct]
  have := eq_ac w 9997 x y
  unfold acV at this
  rw [this]
  rfl
def eqQ (h : Bool) (a b : Int) (h' : Bool) (a' b' : Int) : Bool := h == h' && (a == a' && b == b')
theorem eq_q (w : World) (d : Nat) (h : Bool) (a b : Int) (h' : Bool) (a' b' : Int) : (Op.equalIn (d + 2) 23 (.agg #[.bool h, .int .i64 a, .int .i64 b]) (.agg #[.bool h', .int .i64 a', .int .i64 b'])).run Tryz.prog w = .ok (eqQ h a b h' a' b') w := by
  rw [eq_agg w (d + 1) _ _ _ _ Tryz.underlying23 (by kernel_rfl)]
  simp [Op.eqFields, part, go_sem]
  unfold eqQ
  repeat' split
  all_goals simp_all
theorem neq_q (w : World) (h : Bool) (a b : Int) (h' : Bool) (a' b' : Int) : (binOp .neq 23 (.agg #[.bool h, .int .i64 a, .int .i64 b]) (.agg #[.bool h', .int .i64 a', .int .i64 b'])).run Tryz.prog w = .ok (.bool (!eqQ h a b h' a' b')) w := by
  rw [run_neq_struct, eq_q w 9998]; rfl
theorem eql_q (w : World) (h : Bool) (a b : Int) (h' : Bool) (a' b' : Int) : (binOp .eql 23 (.agg #[.bool h, .int .i64 a, .int .i64 b]) (.agg #[.bool h', .int .i64 a', .int .i64 b'])).run Tryz.prog w = .ok (.bool (eqQ h a b h' a' b')) w := by
  rw [run_eql_struct, eq_q w 9998]; rfl
end Go.Proofs.YthinpbdbhijbgaaGreatDoor
namespace Go.Proofs.YthinpbdbhijbgaaGreatDoor
open Go.RowKit
set_option maxHeartbeats 2000000
set_option maxRecDepth 100000

/-- Are two lists alike. -/
def eqAcs : List Ac → List Ac → Bool
  | [], [] => true
  | x :: xs, y :: ys => eqAc x y && eqAcs xs ys
  | _, _ => false
theorem eqAcs_len : ∀ xs ys, xs.length ≠ ys.length → eqAcs xs ys = false
  | [], [], h => absurd rfl h
  | [], _ :: _, _ => rfl
  | _ :: _, [], _ => rfl
  | x :: xs, y :: ys, h => by simp only [eqAcs]; rw [eqAcs_len xs ys (by simpa using h)]; simp
theorem eqAcs_drop (xs ys : List Ac) (k : Nat) (h : k < xs.length) (h' : k < ys.length) : eqAcs (xs.drop k) (ys.drop k) = (eqAc xs[k] ys[k] && eqAcs (xs.drop (k + 1)) (ys.drop (k + 1))) := by
  rw [List.drop_eq_getElem_cons h, List.drop_eq_getElem_cons h']; rfl

theorem racls_any (a b : Option Addr) (c d : Nat) (xs ys : List Ac) (w : World) (hx : Cells w.heap.size w a (acCs xs)) (hy : Cells w.heap.size w b (acCs ys)) (hm : xs.length ≤ 9223372036854775800) (hm' : ys.length ≤ 9223372036854775800) :
    Calls Tryz.prog 130 #[.slice a xs.length c, .slice b ys.length d] w fun e w' => e = .returned (.bool (eqAcs xs ys)) ∧ Below w.heap.size w w' := by
  by_cases hl : xs.length ≠ ys.length
  · have H1 := Lib.hid (eqAcs_len xs ys hl)
    have hlb : ((xs.length : Int) != ys.length) = true := by simp; omega
    clear hl hx hy
    go_enter Tryz.func130, Tryz.ntmps130
    go_wp2
    go_ret
    exact ⟨by rw [H1.out]; rfl, Below.refl _ _⟩
  have hl : xs.length = ys.length := by omega
  have HL := Lib.hid hl
  have hg := guard_ac
  have hnq := neq_ac
  have hlb : ((xs.length : Int) != ys.length) = false := by simp [hl]
  clear hl
  go_enter Tryz.func130, Tryz.ntmps130
  go_wp2
  go_loopw [5] (fun i wr => ∃ (k n : Nat), k ≤ xs.length ∧ i = .int .i64 k ∧ wr = w.drewN n ∧ Hid (eqAcs xs ys = eqAcs (xs.drop k) (ys.drop k))) (fun i _ => xs.length - (intOf i).toNat)
  case atStart => exact ⟨0, 0, Nat.zero_le _, rfl, rfl, rfl⟩
  case round =>
    obtain ⟨k, n, hk, rfl, rfl, HQ⟩ := hrel
    by_cases hlt : k < xs.length
    · have hlt' : k < ys.length := by have := HL.out; omega
      obtain ⟨b1, o1, rfl, hb1, c0, c1, c2⟩ := acCells hx k hlt
      obtain ⟨b2, o2, rfl, hb2, d0, d1, d2⟩ := acCells hy k hlt'
      have hk1 : (k : Int) < xs.length := by omega
      have hk2 : (k : Int) < ys.length := by omega
      have hk0 : (0 : Int) ≤ k := by omega
      have HD := Lib.hid (eqAcs_drop xs ys k hlt hlt')
      cases he : eqAc xs[k] ys[k]
      · have H1 : Hid (eqAcs xs ys = false) := by unfold Hid; rw [HQ.out, HD.out, he]; rfl
        clear hx hy
        go_wp2
        go_quiet (fail)
        go_wp2
        go_ret
        exact ⟨by rw [H1.out]; rfl, below_drewN (below_drewN (Below.refl _ _) _) _⟩
      · have H1 : Hid (eqAcs xs ys = eqAcs (xs.drop (k + 1)) (ys.drop (k + 1))) := by unfold Hid; rw [HQ.out, HD.out, he]; rfl
        clear hx hy
        go_wp2
        go_quiet (fail)
        go_wp2
        go_roundw
        case rel => exact ⟨k + 1, _, by omega, by go_num, rfl, H1⟩
        case measure => simp [intOf]; omega
    · obtain rfl : k = xs.length := by omega
      have H1 : Hid (eqAcs xs ys = true) := by
        unfold Hid; rw [HQ.out, List.drop_length, HL.out, List.drop_length]; rfl
      clear hx hy
      go_wp2
      go_ret
      exact ⟨by rw [H1.out]; rfl, below_drewN (Below.refl _ _) _⟩

theorem eqAc_self (x : Ac) : eqAc x x = true := by simp [eqAc]
theorem eqAcs_self : ∀ l : List Ac, eqAcs l l = true
  | [] => rfl
  | x :: l => by simp only [eqAcs]; rw [eqAc_self, eqAcs_self l]; rfl

/-- A node and its like are alike. -/
theorem rsame_self (n : Nd) (da aa db ab : Option Addr) (dc ac dd ad : Nat) (w : World) (hf : Fit n) (hD : Cells w.heap.size w da (n.data.map u8v)) (hA : Cells w.heap.size w aa (acCs n.acl)) (hD' : Cells w.heap.size w db (n.data.map u8v)) (hA' : Cells w.heap.size w ab (acCs n.acl)) :
    Calls Tryz.prog 55 #[.agg (ndC n (.slice da n.data.length dc) (.slice aa n.acl.length ac)), .agg (ndC n (.slice db n.data.length dd) (.slice ab n.acl.length ad))] w fun e w' => e = .returned (.bool true) ∧ Below w.heap.size w w' := by
  have hfa := hf.acl
  obtain ⟨W2, hW2⟩ : ∃ W2, W2 = (w.alloc (.cells (ndC n (.slice da n.data.length dc) (.slice aa n.acl.length ac)) 44)).alloc (.cells (ndC n (.slice db n.data.length dd) (.slice ab n.acl.length ad)) 44) := ⟨_, rfl⟩
  have hs2 : W2.heap.size = w.heap.size + 1 + 1 := by rw [hW2]; simp
  have hb2 : Below w.heap.size w W2 := by rw [hW2]; exact ((Below.refl _ _).alloc (Nat.le_refl _) _).alloc (by simp) _
  have hx : Box W2 w.heap.size (ndC n (.slice da n.data.length dc) (.slice aa n.acl.length ac)) := fun j => by rw [hW2]; exact cell_of_row _ _ _ _ _ _ (heap_alloc2_old w _ _)
  have hy : Box W2 (w.heap.size + 1) (ndC n (.slice db n.data.length dd) (.slice ab n.acl.length ad)) := fun j => by rw [hW2]; exact cell_of_row _ _ _ _ _ _ (heap_alloc2_new w _ _)
  have hv1 := conv_string dc (hD.below hb2)
  have hv2 := conv_string dd (hD'.below hb2)
  have CA := racls_any aa ab ac ad n.acl n.acl W2 ((hA.below hb2).mono (by omega)) ((hA'.below hb2).mono (by omega)) (by omega) (by omega)
  rw [eqAcs_self] at CA
  have hgq := guard_q
  have hnq := neq_q
  have hqq : ∀ h a b, eqQ h a b h a b = true := fun h a b => by simp [eqQ]
  rw [hW2] at hv1 hv2 CA
  have CA := Lib.hid CA
  have HW2 := Lib.hid hW2
  unfold ndC at hx hy hv1 hv2 CA HW2 ⊢
  clear hW2 hD hA hD' hA'
  go_enter Tryz.func55, Tryz.ntmps55
  go_wp2_with fail
  refine CA.out.mono ?_
  rintro e w3 ⟨rfl, hb3⟩
  rw [← HW2.out] at hb3
  have hx3 := hx.below hb3 (by omega)
  have hy3 := hy.below hb3 (by omega)
  have hbb := hb2.trans (hb3.mono (by omega))
  unfold Box at hx3 hy3
  clear CA hx hy hv1 hv2 hb3 hb2 HW2
  go_wp2
  go_ret
  exact ⟨rfl, hbb⟩
end Go.Proofs.YthinpbdbhijbgaaGreatDoor
